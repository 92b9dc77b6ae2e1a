/- The law behind: one part of its proof (joined by program out of my own texts). No condition. -/
import Derived.Test.YtngfnokbdcjoeaaGreatDoorVatAN
import Derived.Laws.OwnMore
section
namespace Go.Shp
open Go.Lex
def cls (c : UInt8) : Nat := if isNum c then 1 else if c = 34 then 2 else if small c then 3 else if c = 91 then 4 else if c = 123 then 5 else if c = 64 then 6 else 0
def kcls (k : Int) : Nat := if k = 1 then 1 else if k = 2 then 2 else if k = 3 ∨ k = 7 ∨ k = 8 then 3 else if k = 4 then 4 else if k = 5 then 5 else if k = 6 then 6 else 0
theorem q_eq {q q' : Int} (h1 : kOf q = kOf q') (h2 : zOf q = zOf q') : q = q' := by
 unfold zOf at h2
 rw [h1] at h2
 omega
section
variable {q : Int} {o t : B} {ns : List B} {ps : List Shape}
theorem vform_kind (h : vform (.mk q o t ns ps) = true) : 1 ≤ kOf q ∧ kOf q ≤ 8 := by
 unfold vform at h
 simp only [] at h
 repeat' split at h
 all_goals first | omega | cases h
theorem form1 (h : vform (.mk q o t ns ps) = true) (k : kOf q = 1) : o = [] ∧ t = [] ∧ ns = [] ∧ ps = [] := by
 unfold vform at h
 simp only [k] at h
 simpa [and_assoc] using h
theorem form2 (h : vform (.mk q o t ns ps) = true) (k : kOf q = 2) : o = [] ∧ zOf q = 0 ∧ ns = [] ∧ ps = [] := by
 unfold vform at h
 simp only [k] at h
 simpa [and_assoc] using h
theorem form3 (h : vform (.mk q o t ns ps) = true) (k : kOf q = 3) : o = [] ∧ t = [] ∧ ns = [] ∧ ps = [] ∧ (zOf q = 0 ∨ zOf q = 1) := by
 unfold vform at h
 simp only [k] at h
 simpa [and_assoc] using h
theorem form4 (h : vform (.mk q o t ns ps) = true) (k : kOf q = 4) : o = [] ∧ t = [] ∧ ns = [] ∧ zOf q = 0 := by
 unfold vform at h
 simp only [k] at h
 simpa [and_assoc] using h
theorem form5 (h : vform (.mk q o t ns ps) = true) (k : kOf q = 5) : o = [] ∧ t = [] ∧ zOf q = 0 ∧ ns.length = ps.length ∧ (∀ n ∈ ns, isName n = true) ∧ ns.Nodup := by
 unfold vform namedOk at h
 simp only [k] at h
 simpa [and_assoc] using h
theorem form6 (h : vform (.mk q o t ns ps) = true) (k : kOf q = 6) : o = [] ∧ zOf q = 0 ∧ ns = [] ∧ isName t = true ∧ ps.length = 1 := by
 unfold vform at h
 simp only [k] at h
 simpa [and_assoc] using h
theorem form7 (h : vform (.mk q o t ns ps) = true) (k : kOf q = 7) : isName o = true ∧ isUpper t = true ∧ zOf q = 0 ∧ ns = [] ∧ ps.length = 1 := by
 unfold vform at h
 simp only [k] at h
 simpa [and_assoc] using h
theorem form8 (h : vform (.mk q o t ns ps) = true) (k : kOf q = 8) : o = [] ∧ t = [] ∧ ns = [] ∧ ps = [] ∧ 0 ≤ zOf q ∧ zOf q ≤ 1000 := by
 unfold vform at h
 simp only [k] at h
 simpa [and_assoc] using h
theorem text1 (k : kOf q = 1) : vtext (.mk q o t ns ps) = Lib.itoa (zOf q) := by rw [vtext, if_pos k]
theorem text2 (k : kOf q = 2) : vtext (.mk q o t ns ps) = quote t := by rw [vtext, if_neg (by omega), if_pos k]
theorem text3 (k : kOf q = 3) : vtext (.mk q o t ns ps) = if zOf q = 1 then [116, 114, 117, 101] else [102, 97, 108, 115, 101] := by rw [vtext, if_neg (by omega), if_neg (by omega), if_pos k]
theorem text4 (k : kOf q = 4) : vtext (.mk q o t ns ps) = 91 :: (Lib.join (ps.map vtext) [44, 32] ++ [93]) := by rw [vtext, if_neg (by omega), if_neg (by omega), if_neg (by omega), if_pos k, vtexts_map]
def ftext (a : B × Shape) : B := a.1 ++ 32 :: 61 :: 32 :: vtext a.2
theorem zip_ftext : ∀ (ns : List B) (ps : List Shape), List.zipWith (fun n s => n ++ [32, 61, 32] ++ s) ns (ps.map vtext) = (ns.zip ps).map ftext
 | [], _ => rfl
 | _ :: _, [] => rfl
 | n :: ns, p :: ps => by
  rw [List.map_cons, List.zipWith_cons_cons, List.zip_cons_cons, List.map_cons, zip_ftext ns ps]
  simp [ftext]
theorem text5 (k : kOf q = 5) : vtext (.mk q o t ns ps) = 123 :: (Lib.join ((ns.zip ps).map ftext) [44, 32] ++ [125]) := by rw [vtext, if_neg (by omega), if_neg (by omega), if_neg (by omega), if_neg (by omega), if_pos k, vtexts_map, zip_ftext]
theorem text6 {p : Shape} (k : kOf q = 6) : vtext (.mk q o t ns [p]) = 64 :: (t ++ 40 :: (vtext p ++ [41])) := by rw [vtext, if_neg (by omega), if_neg (by omega), if_neg (by omega), if_neg (by omega), if_neg (by omega), if_pos k, vtexts_map]; rfl
theorem text7 {p : Shape} (k : kOf q = 7) : vtext (.mk q o t ns [p]) = o ++ 47 :: (t ++ 40 :: (vtext p ++ [41])) := by rw [vtext, if_neg (by omega), if_neg (by omega), if_neg (by omega), if_neg (by omega), if_neg (by omega), if_neg (by omega), if_pos k, vtexts_map]; rfl
theorem text8 (k : kOf q = 8) : vtext (.mk q o t ns ps) = [102, 117, 110] ++ 47 :: Lib.itoa (zOf q) := by rw [vtext, if_neg (by omega), if_neg (by omega), if_neg (by omega), if_neg (by omega), if_neg (by omega), if_neg (by omega), if_neg (by omega)]; rfl
theorem name_all {n : B} (h : isName n = true) : n.all rest = true ∧ isWord n = false ∧ ∃ c r, n = c :: r ∧ small c = true := by
 unfold isName named at h
 rw [Bool.and_eq_true, Bool.not_eq_true'] at h
 cases n with
 | nil => cases h.1
 | cons c r =>
  have h1 := h.1
  simp only [Bool.and_eq_true] at h1
  exact ⟨h1.2, h.2, c, r, rfl, h1.1.2⟩
theorem upper_all {n : B} (h : isUpper n = true) : n.all rest = true := by
 unfold isUpper named at h
 cases n with
 | nil => cases h
 | cons c r =>
  simp only [Bool.and_eq_true] at h
  exact h.2
theorem cls_small {c : UInt8} (h : small c = true) : cls c = 3 := by
 unfold cls
 have h1 : isNum c = false := by
  unfold small at h
  unfold isNum digit
  have := of_decide_eq_true h
  rw [Bool.or_eq_false_iff]
  refine ⟨decide_eq_false (by omega), ?_⟩
  rw [beq_eq_false_iff_ne]
  rintro rfl
  exact absurd this (by decide)
 rw [h1, if_neg (by simp), if_neg (by rintro rfl; exact absurd h (by decide)), if_pos h]
theorem text_head (h : vform (.mk q o t ns ps) = true) : ∃ c r, vtext (.mk q o t ns ps) = c :: r ∧ cls c = kcls (kOf q) := by
 obtain ⟨h1, h8⟩ := vform_kind h
 rcases (by omega : kOf q = 1 ∨ kOf q = 2 ∨ kOf q = 3 ∨ kOf q = 4 ∨ kOf q = 5 ∨ kOf q = 6 ∨ kOf q = 7 ∨ kOf q = 8) with k | k | k | k | k | k | k | k
 ·rw [text1 k, k]
  have := itoa_num (zOf q)
  cases hc : Lib.itoa (zOf q) with
  | nil =>
   exfalso
   unfold Lib.itoa at hc
   split at hc
   ·cases hc
   ·exact dec_ne _ hc
  | cons c r =>
   rw [hc, List.all_cons, Bool.and_eq_true] at this
   exact ⟨c, r, rfl, by unfold cls; rw [if_pos this.1]; rfl⟩
 ·rw [text2 k, k]
  exact ⟨34, _, rfl, rfl⟩
 ·rw [text3 k, k]
  split
  ·exact ⟨_, _, rfl, rfl⟩
  ·exact ⟨_, _, rfl, rfl⟩
 ·rw [text4 k, k]
  exact ⟨_, _, rfl, rfl⟩
 ·rw [text5 k, k]
  exact ⟨_, _, rfl, rfl⟩
 ·obtain ⟨_, _, _, _, hl⟩ := form6 h k
  match ps, hl with
  | [p], _ =>
   rw [text6 k, k]
   exact ⟨_, _, rfl, rfl⟩
 ·obtain ⟨ho, _, _, _, hl⟩ := form7 h k
  obtain ⟨_, _, c, r, rfl, hs⟩ := name_all ho
  match ps, hl with
  | [p], _ =>
   rw [text7 k, k]
   exact ⟨c, _, rfl, cls_small hs⟩
 ·rw [text8 k, k]
  exact ⟨_, _, rfl, rfl⟩
theorem cls_pos (h : vform (.mk q o t ns ps) = true) : kcls (kOf q) ≠ 0 := by
 obtain ⟨h1, h8⟩ := vform_kind h
 rcases (by omega : kOf q = 1 ∨ kOf q = 2 ∨ kOf q = 3 ∨ kOf q = 4 ∨ kOf q = 5 ∨ kOf q = 6 ∨ kOf q = 7 ∨ kOf q = 8) with k | k | k | k | k | k | k | k <;> rw [k] <;> decide
theorem text_ne {cl : UInt8} (hc : cl = 93 ∨ cl = 125) {v : Shape} (h : formed v = true) (x y : B) : vtext v ++ x ≠ cl :: y := by
 obtain ⟨q, o, t, ns, ps⟩ := v
 have hf := (formed_parts h).1
 obtain ⟨c, r, e, hcl⟩ := text_head hf
 rw [e]
 intro he
 have := (List.cons.inj he).1
 subst this
 have h0 := cls_pos hf
 rw [← hcl] at h0
 rcases hc with rfl | rfl <;> exact h0 (by decide)
end
theorem not_name_true : isName [116, 114, 117, 101] = false := by decide
theorem not_name_false : isName [102, 97, 108, 115, 101] = false := by decide
theorem not_name_fun : isName [102, 117, 110] = false := by decide
theorem word3 {q : Int} {o t : B} {ns : List B} {ps : List Shape} (h : vform (.mk q o t ns ps) = true) (hk : kcls (kOf q) = 3) : ∃ l r : B, vtext (.mk q o t ns ps) = l ++ r ∧ l.all rest = true ∧ (∀ x, Stop x → ∀ c s, r ++ x = c :: s → rest c = false) ∧
  ((kOf q = 3 ∧ l = (if zOf q = 1 then [116, 114, 117, 101] else [102, 97, 108, 115, 101]) ∧ r = []) ∨ (kOf q = 7 ∧ l = o ∧ ∃ p, ps = [p] ∧ r = 47 :: (t ++ 40 :: (vtext p ++ [41]))) ∨ (kOf q = 8 ∧ l = [102, 117, 110] ∧ r = 47 :: Lib.itoa (zOf q))) := by
 obtain ⟨h1, h8⟩ := vform_kind h
 rcases (by omega : kOf q = 1 ∨ kOf q = 2 ∨ kOf q = 3 ∨ kOf q = 4 ∨ kOf q = 5 ∨ kOf q = 6 ∨ kOf q = 7 ∨ kOf q = 8) with k | k | k | k | k | k | k | k
 ·rw [k] at hk; exact absurd hk (by decide)
 ·rw [k] at hk; exact absurd hk (by decide)
 ·refine ⟨_, [], by rw [text3 k, List.append_nil], by split <;> decide, fun x hx c s e => stop_rest hx c s e, .inl ⟨k, rfl, rfl⟩⟩
 ·rw [k] at hk; exact absurd hk (by decide)
 ·rw [k] at hk; exact absurd hk (by decide)
 ·rw [k] at hk; exact absurd hk (by decide)
 ·obtain ⟨ho, _, _, _, hl⟩ := form7 h k
  match ps, hl with
  | [p], _ => exact ⟨o, _, text7 k, (name_all ho).1, fun x _ c s e => by cases e; rfl, .inr (.inl ⟨k, rfl, p, rfl, rfl⟩)⟩
 ·exact ⟨_, _, text8 k, by decide, fun x _ c s e => by cases e; rfl, .inr (.inr ⟨k, rfl, rfl⟩)⟩
theorem zip_eq {α β : Type} {l l' : List α} {m m' : List β} (h1 : l.length = m.length) (h2 : l'.length = m'.length) (h : l.zip m = l'.zip m') : l = l' ∧ m = m' := by
 have a := congrArg (List.map Prod.fst) h
 have b := congrArg (List.map Prod.snd) h
 rw [List.map_fst_zip (by omega), List.map_fst_zip (by omega)] at a
 rw [List.map_snd_zip (by omega), List.map_snd_zip (by omega)] at b
 exact ⟨a, b⟩
theorem text_inj : ∀ (d : Nat) (a b : Shape), deep a ≤ d → formed a = true → formed b = true → ∀ x y, Stop x → Stop y → vtext a ++ x = vtext b ++ y → a = b ∧ x = y
 | 0, a, _, h, _, _ => by have := deep_pos a; omega
 | d + 1, .mk q o t ns ps, .mk q' o' t' ns' ps', hd, ha, hb => by
  intro x y hx hy he
  rw [deep_mk] at hd
  obtain ⟨fa, pa⟩ := formed_parts ha
  obtain ⟨fb, pb⟩ := formed_parts hb
  have ih : ∀ a ∈ ps, ∀ b ∈ ps', ∀ x y, Stop x → Stop y → vtext a ++ x = vtext b ++ y → a = b ∧ x = y := fun a hm b hm' => text_inj d a b (by have := deep_mem hm; omega) (pa a hm) (pb b hm')
  obtain ⟨c, r, e1, c1⟩ := text_head fa
  obtain ⟨c', r', e2, c2⟩ := text_head fb
  have hcc : kcls (kOf q) = kcls (kOf q') := by
   rw [e1, e2] at he
   rw [← c1, ← c2, (List.cons.inj he).1]
  clear c1 c2 e1 e2
  obtain ⟨l1, l8⟩ := vform_kind fa
  obtain ⟨m1, m8⟩ := vform_kind fb
  by_cases h3 : kcls (kOf q) = 3
  ·obtain ⟨l, r, t1, t2, t3, t4⟩ := word3 fa h3
   obtain ⟨l', r', u1, u2, u3, u4⟩ := word3 fb (hcc ▸ h3)
   rw [t1, u1, List.append_assoc, List.append_assoc] at he
   obtain ⟨hl, hr⟩ := run_inj t2 u2 (t3 x hx) (u3 y hy) he
   rcases t4 with ⟨k, rfl, rfl⟩ | ⟨k, rfl, p, rfl, rfl⟩ | ⟨k, rfl, rfl⟩
   ·rcases u4 with ⟨k', rfl, rfl⟩ | ⟨k', rfl, p', rfl, rfl⟩ | ⟨k', rfl, rfl⟩
    ·obtain ⟨rfl, rfl, rfl, rfl, z⟩ := form3 fa k
     obtain ⟨rfl, rfl, rfl, rfl, z'⟩ := form3 fb k'
     have hz : zOf q = zOf q' := by
      rcases z with z | z <;> rcases z' with z' | z' <;> rw [z, z'] at hl <;> first | omega | (exact absurd hl (by decide))
     rw [q_eq (by omega) hz]
     exact ⟨rfl, hr⟩
    ·exfalso
     have := (form7 fb k').1
     rw [← hl] at this
     split at this
     ·rw [not_name_true] at this; cases this
     ·rw [not_name_false] at this; cases this
    ·exfalso
     split at hl <;> exact absurd hl (by decide)
   ·rcases u4 with ⟨k', rfl, rfl⟩ | ⟨k', rfl, p', rfl, rfl⟩ | ⟨k', rfl, rfl⟩
    ·exfalso
     have := (form7 fa k).1
     rw [hl] at this
     split at this
     ·rw [not_name_true] at this; cases this
     ·rw [not_name_false] at this; cases this
    ·obtain ⟨_, ut, z, rfl, _⟩ := form7 fa k
     obtain ⟨_, ut', z', rfl, _⟩ := form7 fb k'
     rw [List.cons_append, List.cons_append, List.append_assoc, List.append_assoc] at hr
     obtain ⟨rfl, h1⟩ := run_inj (upper_all ut) (upper_all ut') (fun c s e => by cases e; rfl) (fun c s e => by cases e; rfl) (List.cons.inj hr).2
     rw [List.cons_append, List.cons_append, List.append_assoc, List.append_assoc] at h1
     obtain ⟨rfl, h2⟩ := ih p (by simp) p' (by simp) _ _ (stop_cons (by simp)) (stop_cons (by simp)) (List.cons.inj h1).2
     rw [q_eq (q := q) (q' := q') (by omega) (by omega), hl]
     exact ⟨rfl, (List.cons.inj h2).2⟩
    ·exfalso
     have := (form7 fa k).1
     rw [hl, not_name_fun] at this
     cases this
   ·rcases u4 with ⟨k', rfl, rfl⟩ | ⟨k', rfl, p', rfl, rfl⟩ | ⟨k', rfl, rfl⟩
    ·exfalso
     split at hl <;> exact absurd hl (by decide)
    ·exfalso
     have := (form7 fb k').1
     rw [← hl, not_name_fun] at this
     cases this
    ·obtain ⟨rfl, rfl, rfl, rfl, _⟩ := form8 fa k
     obtain ⟨rfl, rfl, rfl, rfl, _⟩ := form8 fb k'
     obtain ⟨hi, hxy⟩ := run_inj (itoa_num _) (itoa_num _) (stop_num hx) (stop_num hy) (List.cons.inj hr).2
     rw [q_eq (q := q) (q' := q') (by omega) (itoa_inj hi)]
     exact ⟨rfl, hxy⟩
  ·have hk : kOf q = kOf q' := by
    unfold kcls at hcc h3
    repeat' split at hcc
    all_goals first | omega | (simp_all; done) | (simp_all; omega)
   rcases (by omega : kOf q = 1 ∨ kOf q = 2 ∨ kOf q = 3 ∨ kOf q = 4 ∨ kOf q = 5 ∨ kOf q = 6 ∨ kOf q = 7 ∨ kOf q = 8) with k | k | k | k | k | k | k | k
   ·obtain ⟨rfl, rfl, rfl, rfl⟩ := form1 fa k
    obtain ⟨rfl, rfl, rfl, rfl⟩ := form1 fb (hk ▸ k)
    rw [text1 k, text1 (hk ▸ k)] at he
    obtain ⟨hi, hxy⟩ := run_inj (itoa_num _) (itoa_num _) (stop_num hx) (stop_num hy) he
    rw [q_eq hk (itoa_inj hi)]
    exact ⟨rfl, hxy⟩
   ·obtain ⟨rfl, z, rfl, rfl⟩ := form2 fa k
    obtain ⟨rfl, z', rfl, rfl⟩ := form2 fb (hk ▸ k)
    rw [text2 k, text2 (hk ▸ k)] at he
    unfold quote at he
    simp only [List.cons_append, List.nil_append, List.append_assoc] at he
    obtain ⟨rfl, hxy⟩ := quo_inj (List.cons.inj he).2
    rw [q_eq hk (by omega)]
    exact ⟨rfl, hxy⟩
   ·exact absurd (by rw [k]; rfl) h3
   ·obtain ⟨rfl, rfl, rfl, z⟩ := form4 fa k
    obtain ⟨rfl, rfl, rfl, z'⟩ := form4 fb (hk ▸ k)
    rw [text4 k, text4 (hk ▸ k)] at he
    simp only [List.cons_append, List.append_assoc, List.nil_append] at he
    obtain ⟨rfl, hxy⟩ := list_inj (.inl rfl) ih (fun a hm x y => text_ne (.inl rfl) ((List.mem_append.1 hm).elim (pa a) (pb a)) x y) (List.cons.inj he).2
    rw [q_eq hk (by omega)]
    exact ⟨rfl, hxy⟩
   ·obtain ⟨rfl, rfl, z, ln, hn, _⟩ := form5 fa k
    obtain ⟨rfl, rfl, z', ln', hn', _⟩ := form5 fb (hk ▸ k)
    rw [text5 k, text5 (hk ▸ k)] at he
    simp only [List.cons_append, List.append_assoc, List.nil_append] at he
    have ih2 : ∀ a ∈ ns.zip ps, ∀ b ∈ ns'.zip ps', ∀ x y, Stop x → Stop y → ftext a ++ x = ftext b ++ y → a = b ∧ x = y := fun a hm b hm' x y hx hy h => by
     obtain ⟨n, p⟩ := a
     obtain ⟨n', p'⟩ := b
     have m1 := List.of_mem_zip hm
     have m2 := List.of_mem_zip hm'
     unfold ftext at h
     rw [List.append_assoc, List.append_assoc] at h
     obtain ⟨rfl, h1⟩ := run_inj (name_all (hn n m1.1)).1 (name_all (hn' n' m2.1)).1 (fun c s e => by cases e; rfl) (fun c s e => by cases e; rfl) h
     simp only [List.cons_append, List.cons.injEq, true_and] at h1
     obtain ⟨rfl, h2⟩ := ih p m1.2 p' m2.2 x y hx hy h1
     exact ⟨rfl, h2⟩
    have h0 : ∀ a ∈ ns.zip ps ++ ns'.zip ps', ∀ x y, ftext a ++ x ≠ 125 :: y := fun a hm x y h => by
     obtain ⟨n, p⟩ := a
     have hnm : isName n = true := by
      rcases List.mem_append.1 hm with hm | hm
      ·exact hn n (List.of_mem_zip hm).1
      ·exact hn' n (List.of_mem_zip hm).1
     obtain ⟨_, _, c, r, rfl, hs⟩ := name_all hnm
     have := (List.cons.inj (show c :: _ = 125 :: y from h)).1
     subst this
     exact absurd hs (by decide)
    obtain ⟨hz, hxy⟩ := list_inj (.inr rfl) ih2 h0 (List.cons.inj he).2
    obtain ⟨rfl, rfl⟩ := zip_eq ln ln' hz
    rw [q_eq hk (by omega)]
    exact ⟨rfl, hxy⟩
   ·obtain ⟨rfl, z, rfl, nt, hl⟩ := form6 fa k
    obtain ⟨rfl, z', rfl, nt', hl'⟩ := form6 fb (hk ▸ k)
    match ps, hl, ps', hl' with
    | [p], _, [p'], _ =>
     rw [text6 k, text6 (hk ▸ k), List.cons_append, List.cons_append, List.append_assoc, List.append_assoc] at he
     obtain ⟨rfl, h1⟩ := run_inj (name_all nt).1 (name_all nt').1 (fun c s e => by cases e; rfl) (fun c s e => by cases e; rfl) (List.cons.inj he).2
     rw [List.cons_append, List.cons_append, List.append_assoc, List.append_assoc] at h1
     obtain ⟨rfl, h2⟩ := ih p (by simp) p' (by simp) _ _ (stop_cons (by simp)) (stop_cons (by simp)) (List.cons.inj h1).2
     rw [q_eq hk (by omega)]
     exact ⟨rfl, (List.cons.inj h2).2⟩
   ·exact absurd (by rw [k]; rfl) h3
   ·exact absurd (by rw [k]; rfl) h3
theorem text_one {a b : Shape} (ha : formed a = true) (hb : formed b = true) (h : vtext a = vtext b) : a = b :=
 (text_inj (deep a) a b (Nat.le_refl _) ha hb [] [] stop_nil stop_nil (by rw [h])).1
theorem texts_same {a b : Shape} {s t : B} (ha : vshow (if vcheck a = 0 then sortS a else a) = (0, s)) (hb : vshow (if vcheck b = 0 then sortS b else b) = (0, t)) : (s == t) = vsame a b := by
 have key : ∀ {v : Shape} {s : B}, vshow (if vcheck v = 0 then sortS v else v) = (0, s) → vcheck v = 0 ∧ formed (sortS v) = true ∧ s = vtext (sortS v) := fun {v s} h => by
  by_cases hc : vcheck v = 0
  ·rw [if_pos hc] at h
   obtain ⟨_, _, hf⟩ := vcheck_ok.1 hc
   unfold vshow at h
   by_cases h1 : vcheck (sortS v) ≠ 0
   ·rw [if_pos h1] at h
    exact absurd (congrArg Prod.fst h) h1
   ·rw [if_neg h1] at h
    by_cases h2 : vquot (sortS v) = true
    ·rw [if_pos h2] at h
     exact ⟨hc, formed_sort _ (Nat.le_refl _) hf, (congrArg Prod.snd h).symm⟩
    ·rw [if_neg h2] at h
     exact absurd (congrArg Prod.fst h) (by simp)
  ·rw [if_neg hc] at h
   unfold vshow at h
   rw [if_pos hc] at h
   exact absurd (congrArg Prod.fst h) hc
 obtain ⟨ca, fa, rfl⟩ := key ha
 obtain ⟨cb, fb, rfl⟩ := key hb
 unfold vsame
 rw [ca, cb, Bool.eq_iff_iff]
 simp only [beq_self_eq_true, Bool.true_and, beq_iff_eq]
 constructor
 ·intro h
  rw [text_one fa fb h]
  exact eqS_refl _
 ·intro h
  rw [eqS_eq h]
end Go.Shp
end
section

end
section
namespace Go.Shp
open Go.Lex
def g1 (k : Int) (o : B) (ns : List B) : Bool := (decide (k ≠ 5) && !ns.isEmpty) || (decide (k ≠ 7) && !o.isEmpty)
def g2 (k z : Int) : Bool := decide (k ≠ 1) && (decide (k ≠ 3) && (decide (k ≠ 8) && decide (z ≠ 0)))
def g3 (k : Int) (t : B) : Bool := decide (k ≠ 2) && (decide (k ≠ 6) && (decide (k ≠ 7) && !t.isEmpty))
end Go.Shp
namespace Go.Lift
theorem Blk.ldW {R : Ending → World → Prop} {w : World} {m : Nat} {t : TypeId} {k z : Int} {o n : ByteArray} {ns ps : Sl} (B : Blk w m t (vaCells k z o n ns ps)) {K : Int → Int → ByteArray → ByteArray → Sl → Sl → G} (h : K k z o n ns ps R w) :
  ldG (.int .i64) ⟨m, 0, none⟩ (fun (k : Int) => ldG (.int .i64) ⟨m, 1, none⟩ (fun (z : Int) => ldG .str ⟨m, 2, none⟩ (fun (o : ByteArray) => ldG .str ⟨m, 3, none⟩ (fun (n : ByteArray) => ldG .slice ⟨m, 4, none⟩ (fun (ns : Sl) => ldG .slice ⟨m, 5, none⟩ (fun (ps : Sl) => K k z o n ns ps)))))) R w :=
 B.ld (c := .int .i64) (x := k) (o := 0) rfl (B.ld (c := .int .i64) (x := z) (o := 1) rfl (B.ld (c := .str) (x := o) (o := 2) rfl (B.ld (c := .str) (x := n) (o := 3) rfl (B.ldS (o := 4) rfl (B.ldS (o := 5) rfl h)))))
theorem Blk.heldW {w : World} {m : Nat} {t : TypeId} {k z : Int} {o n : ByteArray} {ns ps : Sl} (B : Blk w m t (vaCells k z o n ns ps)) : Held w (⟨m, 0, none⟩, [.int .i64 k, .int .i64 z, .string o, .string n, .slice ns.a ns.n ns.c, .slice ps.a ps.n ps.c]) :=
 B.held fun j v hj => by rw [Nat.zero_add]; exact hj
end Go.Lift
namespace Go.Proofs.YtngfnokbdcjoeaaGreatDoor
open Go.Lift Go.Lex Go.Shp
section
variable {w : World}
end
end Go.Proofs.YtngfnokbdcjoeaaGreatDoor
end
section
namespace Go.Shp
theorem eqL_len : ∀ {l r : List Shape}, eqL l r = true → l.length = r.length
 | [], [], _ => rfl
 | [], _ :: _, h => by simp [eqL] at h
 | _ :: _, [], h => by simp [eqL] at h
 | a :: l, b :: r, h => by
  rw [eqL, Bool.and_eq_true] at h
  rw [List.length_cons, List.length_cons, eqL_len h.2]
theorem eqL_at : ∀ {l r : List Shape} {i : Nat} {a b : Shape}, eqL l r = true → l[i]? = some a → r[i]? = some b → eqS a b = true
 | [], _, _, _, _, _, h, _ => by simp at h
 | _ :: _, [], _, _, _, _, _, h => by simp at h
 | x :: l, y :: r, 0, a, b, h, ha, hb => by
  rw [eqL, Bool.and_eq_true] at h
  cases ha
  cases hb
  exact h.1
 | x :: l, y :: r, i + 1, a, b, h, ha, hb => by
  rw [eqL, Bool.and_eq_true] at h
  exact eqL_at (i := i) h.2 (by simpa using ha) (by simpa using hb)
theorem eqL_of : ∀ {l r : List Shape}, l.length = r.length → (∀ (i : Nat) (a b : Shape), l[i]? = some a → r[i]? = some b → eqS a b = true) → eqL l r = true
 | [], [], _, _ => by rw [eqL]
 | [], _ :: _, h, _ => by simp at h
 | _ :: _, [], h, _ => by simp at h
 | x :: l, y :: r, h, k => by
  rw [eqL, k 0 x y rfl rfl, Bool.true_and]
  exact eqL_of (by simpa using h) fun i a b ha hb => k (i + 1) a b (by simpa using ha) (by simpa using hb)
end Go.Shp
namespace Go.Proofs.YtngfnokbdcjoeaaGreatDoor
open Go.Lift Go.Lex Go.Shp
end Go.Proofs.YtngfnokbdcjoeaaGreatDoor
end
section
namespace Go.Lift
open Go.Shp
section
variable {R : Ending → World → Prop} {w : World}
theorem str_ldA {s : Sl} {l : List (List UInt8)} {i : Nat} {x : List UInt8} {K : Addr → ByteArray → G} (h : RdS w s (l.map bs)) (hx : l[i]? = some x) (hk : ∀ a, w.cell? a = some (.string (bs x)) → K a (bs x) R w) : idxG s.a s.n (i : Int) 1 (fun (a : Addr) => ldG .str a (K a)) R w := by
 have hi := (List.getElem?_eq_some_iff.1 hx).1
 obtain ⟨y, a, hy, ha, rd, hix⟩ := h.at (k := i) (by simpa using hi)
 rw [List.getElem?_map, hx] at hy
 cases hy
 rw [ha]
 exact hix (ld_ok (c := .str) (rd _ (Fr.refl _ _)) (hk _ (rd _ (Fr.refl _ _))))
theorem part_ld0 {w0 : World} {l : List Shape} {a : Option Addr} {len i : Nat} {s : Shape} {K : Int → ByteArray → ByteArray → Sl → Sl → G} (h : ShL w0 a 0 l) (F : Fr noB w0 w) (hs : l[i]? = some s) (hl : len = l.length)
  (hk : ∀ k o n ns ps, ShV w0 k o n ns ps s → K k o n ns ps R w) :
  idxG a len (i : Int) 5 (fun (x : Addr) => ldG (.int .i64) (x.add 0) (fun (k : Int) => ldG .str (x.add 1) (fun (o : ByteArray) => ldG .str (x.add 2) (fun (n : ByteArray) => ldG .slice (x.add 3) (fun (ns : Sl) => ldG .slice (x.add 4) (fun (ps : Sl) => K k o n ns ps)))))) R w := by
 obtain ⟨g, off, k, o, n, ns, ps, rfl, c0, c1, c2, c3, c4, hv⟩ := h.at hs
 have hi := (List.getElem?_eq_some_iff.1 hs).1
 rw [Nat.zero_add] at c0 c1 c2 c3 c4
 refine idxB_ok (n := len) (i := i) (by omega) ?_
 simp only [Addr.add_lit, Nat.add_zero]
 exact ld_ok (c := .int .i64) (F.cell c0 fun h => h) (ld_ok (c := .str) (F.cell c1 fun h => h) (ld_ok (c := .str) (F.cell c2 fun h => h) (ld_ok (c := .slice) (x := ns) (F.cell c3 fun h => h) (ld_ok (c := .slice) (x := ps) (F.cell c4 fun h => h) (hk k o n ns ps hv)))))
theorem st_fr {a b c : World} {m : Nat} (h : Fr (oneB m) a b) (k : Fr (oneB m) b c) : Fr (oneB m) a c := h.then k fun _ _ h => h
theorem fill_ok {m : Nat} {t : TypeId} {l : List Value} {v0 v1 v2 v3 v4 : Value} {k : G} (B : Blk w m t l) (hl : l.length = 5) (h0 : v0.oneCell' = true) (h1 : v1.oneCell' = true) (h2 : v2.oneCell' = true) (h3 : v3.oneCell' = true) (h4 : v4.oneCell' = true)
  (hk : ∀ w', Blk w' m t [v0, v1, v2, v3, v4] → Fr (oneB m) w w' → k R w') : stG ⟨m, 0, none⟩ v0 (stG ⟨m, 1, none⟩ v1 (stG ⟨m, 2, none⟩ v2 (stG ⟨m, 3, none⟩ v3 (stG ⟨m, 4, none⟩ v4 k)))) R w := by
 match l, hl with
 | [a, b, c, d, e], _ =>
  refine B.st h0 (by simp) fun w1 B1 F1 => B1.st h1 (by simp) fun w2 B2 F2 => B2.st h2 (by simp) fun w3 B3 F3 => B3.st h3 (by simp) fun w4 B4 F4 => B4.st h4 (by simp) fun w5 B5 F5 => ?_
  exact hk _ B5 (st_fr (st_fr (st_fr (st_fr F1 F2) F3) F4) F5)
theorem Fr.fill {a b c : World} {m : Nat} (h : Fr noB a b) (hm : a.heap.size ≤ m) (k : Fr (oneB m) b c) : Fr noB a c := h.then k fun x hx h => by unfold oneB at h; omega
theorem Blk.ldV {m : Nat} {t : TypeId} {k : Int} {o n : ByteArray} {ns ps : Sl} (B : Blk w m t (shCells k o n ns ps)) {K : Int → ByteArray → ByteArray → Sl → Sl → G} (h : K k o n ns ps R w) :
  ldG (.int .i64) ⟨m, 0, none⟩ (fun (k : Int) => ldG .str ⟨m, 1, none⟩ (fun (o : ByteArray) => ldG .str ⟨m, 2, none⟩ (fun (n : ByteArray) => ldG .slice ⟨m, 3, none⟩ (fun (ns : Sl) => ldG .slice ⟨m, 4, none⟩ (fun (ps : Sl) => K k o n ns ps))))) R w :=
 B.ld (c := .int .i64) (x := k) (o := 0) rfl (B.ld (c := .str) (x := o) (o := 1) rfl (B.ld (c := .str) (x := n) (o := 2) rfl (B.ldS (o := 3) rfl (B.ldS (o := 4) rfl h))))
end
end Go.Lift
namespace Go.Proofs.YtngfnokbdcjoeaaGreatDoor
open Go.Lift Go.Lex Go.Shp
section
variable {w : World}
end
end Go.Proofs.YtngfnokbdcjoeaaGreatDoor
end
section
namespace Go.Shp
open Go.Lex
end Go.Shp
namespace Go.Proofs.YtngfnokbdcjoeaaGreatDoor
open Go.Lift Go.Lex Go.Shp
end Go.Proofs.YtngfnokbdcjoeaaGreatDoor
end
section
namespace Go.Shp
open Go.Lex
end Go.Shp
namespace Go.Proofs.YtngfnokbdcjoeaaGreatDoor
open Go.Lift Go.Lex Go.Shp
section
variable {w : World}
end
theorem nat0 {n : Nat} (h : ((n : Int) == 0) = true) : n = 0 := by simpa using h
end Go.Proofs.YtngfnokbdcjoeaaGreatDoor
end
section
namespace Go.Lift
section
variable {P : Program} {R : Ending → World → Prop} {w : World}
def SrcC (w : World) (s : Sl) (sz : Nat) (cs : List Value) : Prop := cs.length = s.n * sz ∧ (s.a = none → s.n = 0 ∧ s.c = 0) ∧ ∀ ad, s.a = some ad → Held w (ad, cs)
theorem SrcC.fr {w' : World} {s : Sl} {sz : Nat} {cs : List Value} (h : SrcC w s sz cs) (F : Fr noB w w') : SrcC w' s sz cs := ⟨h.1, h.2.1, fun ad ha => F.held (h.2.2 ad ha) fun h => h⟩
def Stay (w : World) (F : List Fact) : Prop := ∀ w', Fr noB w w' → ∀ f ∈ F, Held w' f
theorem Stay.go {F : List Fact} (h : Stay w F) {w0 : World} {k : G} (G0 : Fr noB w w0) (hk : k R w0) : keepG F k R w0 := ⟨h w0 G0, hk⟩
theorem Stay.nil : Stay w [] := fun _ _ f hf => by cases hf
theorem Stay.cons {f : Fact} {F : List Fact} (h : ∀ w', Fr noB w w' → Held w' f) (hF : Stay w F) : Stay w (f :: F) := fun w' G0 g hg => (List.mem_cons.1 hg).elim (fun e => e ▸ h w' G0) (hF w' G0 g)
theorem own_cells {e : TypeId} {size n : Nat} {s : Sl} {xs : List Value} (h : w.ownsRow 0 e size (.slice s.a s.n s.c) n xs) {S : Nat → Prop} {w' : World} (F : Fr S w w') (hs : ∀ a, s.a = some a → ¬ S a.block) : w'.ownsRow 0 e size (.slice s.a s.n s.c) n xs :=
 own_fr h F fun b hb => by
  cases ha : s.a with
  | none => rw [ha] at hb; cases hb
  | some a =>
   rw [ha] at hb
   simp only [Value.ownBlock, Option.some.injEq] at hb
   rw [← hb]
   exact hs a ha
end
end Go.Lift
end
section
namespace Go.Shp
open Go.Lex
end Go.Shp
namespace Go.Lift
open Go.Shp Go.Lex
abbrev TV := Int × ByteArray × ByteArray × Sl × Sl
def ShT (w : World) (v : TV) (s : Shape) : Prop := ShV w v.1 v.2.1 v.2.2.1 v.2.2.2.1 v.2.2.2.2 s
def SP (w : World) (S : Nat → Prop) (V : List TV) (Q : List Shape) : Prop := V.length = Q.length ∧ ∀ (j : Nat) v q, V[j]? = some v → Q[j]? = some q → ∀ w', Fr S w w' → ShT w' v q
theorem SP.go {w w' : World} {S S' : Nat → Prop} {V : List TV} {Q : List Shape} (h : SP w S V Q) (F : Fr S w w') (hs : ∀ x, x < w.heap.size → S' x → S x) : SP w' S' V Q :=
 ⟨h.1, fun j v q hv hq w'' F2 => h.2 j v q hv hq w'' (F.then F2 hs)⟩
end Go.Lift
end
section
namespace Go.Lift
open Go.Shp Go.Lex
section
variable {R : Ending → World → Prop} {w : World}
theorem rds_own {e : TypeId} {l : Sl} {N : List B} (h : w.ownsRow 0 e 1 (.slice l.a l.n l.c) N.length (N.map fun x => .string (bs x))) : RdS w l (N.map bs) := by
 obtain ⟨s', hv, hn, _⟩ := slice_of_own h
 simp only [Value.slice.injEq] at hv
 refine ⟨by rw [hv.2.1, hn, List.length_map], fun j x hj => ?_⟩
 have hjl : j < N.length := by simpa using (List.getElem?_eq_some_iff.1 hj).1
 rcases h.2 with ⟨h1, h2⟩ | ⟨g, cap, cur, h1, _, hg, _⟩
 ·omega
 ·simp only [Value.slice.injEq] at h1
  refine ⟨_, h1.1, h.cells (g := g) (by rw [h1.1]; rfl) (j * 1) _ ?_⟩
  rw [Nat.mul_one, List.getElem?_map]
  rw [List.getElem?_map] at hj
  cases hN : N[j]? with
  | none => rw [hN] at hj; cases hj
  | some y =>
   rw [hN] at hj
   cases hj
   rfl
end
end Go.Lift
namespace Go.Proofs.YtngfnokbdcjoeaaGreatDoor
open Go.Lift Go.Lex Go.Shp
def infoSays (P : Program) (t : TypeId) (size bytes cells : Nat) : Prop := ∃ i z, P.info? t = some i ∧ i.zero = some z ∧ i.size = size ∧ i.bytes = bytes ∧ z.cells.size = cells
theorem infoSays_of {P : Program} {t : TypeId} {size bytes cells : Nat} (h : (P.info? t).map (fun i => (i.size, i.bytes, i.zero.map (·.cells.size))) = some (size, bytes, some cells)) : infoSays P t size bytes cells := by
 cases hi : P.info? t with
 | none => rw [hi] at h; cases h
 | some i =>
  rw [hi] at h
  simp only [Option.map_some, Option.some.injEq, Prod.mk.injEq, Option.map_eq_some_iff] at h
  obtain ⟨h1, h2, z, h3, h4⟩ := h
  exact ⟨i, z, hi, h3, h1, h2, h4⟩
theorem infoStr : infoSays Tryz.prog 9 1 16 1 := infoSays_of (by kernel_rfl)
theorem uStrs' : Tryz.prog.underlying 22 = some (.slice 9) := by kernel_rfl
end Go.Proofs.YtngfnokbdcjoeaaGreatDoor
end
section

end
section
namespace Go.Proofs.YtngfnokbdcjoeaaGreatDoor
open Go.Lift Go.Lex Go.Shp
section
variable {s s' : Shape} {w : World} {k : Int} {o n : ByteArray} {ns ps : Sl} {k2 : Int} {o2 n2 : ByteArray} {ns2 ps2 : Sl}
end
end Go.Proofs.YtngfnokbdcjoeaaGreatDoor
end
section

end
section

end
section
namespace Go.Proofs.YtngfnokbdcjoeaaGreatDoor
open Go.Lift Go.Lex Go.Shp
theorem callBV_ok {w : World} {R : Ending → World → Prop} {f : FuncId} {args : Array Value} {b : Bool} (hf : (resOf Tryz.prog f).isSome = true) (hc : AnsB f args w b) {k : Bool → G} (h : ∀ w', Fr noB w w' → k b R w') : callVG Tryz.prog (.func (.func f) #[] #[]) args [.one .bool] k R w := by
 refine ⟨f, #[], #[], rfl, hf, ?_⟩
 rw [Array.empty_append, Array.append_empty]
 exact hc.mono fun e w' ⟨he, F⟩ => .inl ⟨((b, ()), ()), he, h w' F⟩
theorem eqRow_ok {w : World} {l0 l1 : Sl} {A B' : List B} (hA : RdS w l0 (A.map bs)) (hB : RdS w l1 (B'.map bs)) (hl : A.length < 4611686018427387904) : AnsB 51 #[.slice l0.a l0.n l0.c, .slice l1.a l1.n l1.c] w (A == B') := by
 have h1 := hA.1
 have h2 := hB.1
 rw [List.length_map] at h1 h2
 apply c51
 unfold t51 wrZ ldSZ jn0Z lpIZ ixZ
 refine ite_ok (fun hne => ⟨?_, Fr.refl _ _⟩) fun he => ?_
 ·have hne : ((l0.n : Nat) : Int) ≠ (l1.n : Nat) := by simpa using hne
  have : (A == B') = false := by
   rw [beq_eq_false_iff_ne]
   rintro rfl
   omega
  rw [this]
 have he : ((l0.n : Nat) : Int) = (l1.n : Nat) := by simpa using he
 refine join0_ok (fun w' => A = B' ∧ Fr noB w w') (fun kend hkend => ?_) fun w' ⟨h, F⟩ => ⟨by rw [h]; simp, F⟩
 refine countL_ok A.length (by omega) (fun i w' => (∀ j, j < i → A[j]? = B'[j]?) ∧ Fr noB w w') (fun rec i w1 hi hI hrec => ?_) ⟨fun j h => by omega, Fr.refl _ _⟩
 obtain ⟨hdone, F1⟩ := hI
 refine ite_ok (fun hlt => ?_) fun hge => hkend _ ⟨?_, F1⟩
 ·have hlt : (i : Int) < (l0.n : Int) := of_decide_eq_true hlt
  obtain ⟨x, hx⟩ : ∃ x, A[i]? = some x := ⟨_, List.getElem?_eq_getElem (by omega)⟩
  obtain ⟨y, hy⟩ : ∃ y, B'[i]? = some y := ⟨_, List.getElem?_eq_getElem (by omega)⟩
  refine join_in (vs := []) (drew_ok fun w2 F2 z2 => str_ld (hA.fr (F1.tr F2)) hx (str_ld (hB.fr (F1.tr F2)) hy ?_))
  rw [eq_bl, bl_bs, bl_bs]
  refine ite_ok (fun hne => ⟨?_, F1.tr F2⟩) fun h => hrec (by omega) _ ⟨fun j hj => ?_, F1.tr F2⟩
  ·have hne : x ≠ y := by simpa using hne
   have : (A == B') = false := by
    rw [beq_eq_false_iff_ne]
    rintro rfl
    rw [hx] at hy
    exact hne (Option.some.inj hy)
   rw [this]
  ·have h : x = y := by simpa using h
   rcases Nat.lt_succ_iff_lt_or_eq.1 hj with hj | rfl
   ·exact hdone j hj
   ·rw [hx, hy, h]
 ·have hge : ¬ (i : Int) < (l0.n : Int) := of_decide_eq_false hge
  apply List.ext_getElem?
  intro j
  by_cases hj : j < i
  ·exact hdone j hj
  ·rw [List.getElem?_eq_none (by omega), List.getElem?_eq_none (by omega)]
end Go.Proofs.YtngfnokbdcjoeaaGreatDoor
end
section
namespace Go.Shp
open Go.Lex
mutual
def allS (p : Shape → Bool) : Shape → Bool
 | .mk k o n ns ps => p (.mk k o n ns ps) && allSL p ps
def allSL (p : Shape → Bool) : List Shape → Bool
 | [] => true
 | s :: r => allS p s && allSL p r
end
mutual
theorem allS_fits : ∀ s : Shape, allS fits s = allFit s
 | .mk k o n ns ps => by rw [allS, allFit, allSL_fits ps]
theorem allSL_fits : ∀ l : List Shape, allSL fits l = allFits l
 | [] => by rw [allSL, allFits]
 | s :: r => by rw [allSL, allFits, allS_fits s, allSL_fits r]
end
theorem allSL_mem {p : Shape → Bool} : ∀ {l : List Shape} {s : Shape}, allSL p l = true → s ∈ l → allS p s = true
 | x :: r, s, h, hs => by
  rw [allSL, Bool.and_eq_true] at h
  rcases List.mem_cons.1 hs with rfl | hs
  ·exact h.1
  ·exact allSL_mem h.2 hs
theorem allSL_of {p : Shape → Bool} : ∀ {l : List Shape}, (∀ s ∈ l, allS p s = true) → allSL p l = true
 | [], _ => by rw [allSL]
 | x :: r, h => by rw [allSL, h x (List.mem_cons_self ..), allSL_of fun s hs => h s (List.mem_cons_of_mem _ hs)]; rfl
end Go.Shp
namespace Go.Proofs.YtngfnokbdcjoeaaGreatDoor
open Go.Lift Go.Lex Go.Shp
def PredS (M : Nat) (fv : Value) (p : Shape → Bool) : Prop := ∃ f, fv = .func (.func f) #[] #[] ∧ (resOf Tryz.prog f).isSome = true ∧ ∀ (s : Shape), size s ≤ M → ∀ {w : World} {k : Int} {o n : ByteArray} {ns ps : Sl}, ShV w k o n ns ps s → AnsB f #[shArg k o n ns ps] w (p s)
theorem callPS_ok {w : World} {R : Ending → World → Prop} {M : Nat} {fv : Value} {p : Shape → Bool} (hp : PredS M fv p) {s : Shape} (hM : size s ≤ M) {k : Int} {o n : ByteArray} {ns ps : Sl} (hv : ShV w k o n ns ps s) {K : Bool → G} (h : ∀ w', Fr noB w w' → K (p s) R w') : callVG Tryz.prog fv #[shArg k o n ns ps] [.one .bool] K R w := by
 obtain ⟨f, rfl, hr, hf⟩ := hp
 exact callBV_ok hr (hf s hM hv) h
theorem sall_ok {M : Nat} {fv : Value} {p : Shape → Bool} (hp : PredS M fv p) : ∀ (d : Nat) (s : Shape), size s ≤ d → d ≤ M → ∀ {w : World} {k : Int} {o n : ByteArray} {ns ps : Sl}, ShV w k o n ns ps s →
  AnsB 54 #[shArg k o n ns ps, fv] w (allS p s)
 | 0, s, h, _, _, _, _, _, _, _, _ => by have := size_pos s; omega
 | d + 1, .mk k' o' n' names parts, hd, hM, w, k, o, n, ns, ps, hv => by
  rw [size_mk] at hd
  obtain ⟨_, _, _, ⟨_, _, hpn, hpl, _⟩, hps⟩ := hv.parts
  change ps.n = parts.length at hpn
  change parts.length < 4611686018427387904 at hpl
  change ShL w ps.a 0 parts at hps
  apply c54
  unfold t54 wrZ shZ ldLZ ld5mZ ld5xZ st5Z nw5Z nz5Z caBZ jn0Z lpIZ ixZ
  refine new_ok fun w1 m6 hm6 hs1 B1 F1 => ?_
  change Blk w1 m6 _ (shCells k o n ns ps) at B1
  refine B1.ldV (callPS_ok hp (by rw [size_mk]; omega) (hv.fr F1) fun w2 F2 => ?_)
  have F12 := F1.tr F2
  have hall : allS p (.mk k' o' n' names parts) = (p (.mk k' o' n' names parts) && allSL p parts) := by rw [allS]
  rw [hall]
  by_cases hf : p (.mk k' o' n' names parts) = true
  rotate_left
  ·have hf : p (.mk k' o' n' names parts) = false := by simpa using hf
   exact ite_yes (by rw [hf]; rfl) ⟨by rw [hf]; rfl, F12⟩
  rw [hf, Bool.true_and]
  refine ite_no rfl ((B1.fr F2 (fun h => h)).ldS (o := 4) rfl ?_)
  refine join0_ok (fun w' => allSL p parts = true ∧ Fr noB w w') (fun kend hkend => ?_) (fun w' ⟨h, F⟩ => ⟨by rw [h], F⟩)
  refine countL_ok parts.length (by omega) (fun i w' => (∀ (j : Nat) s, j < i → parts[j]? = some s → allS p s = true) ∧ Fr noB w w') (fun rec i w3 hi hI hrec => ?_) ⟨fun j s h => by omega, F12⟩
  obtain ⟨hdone, F3⟩ := hI
  refine ite_ok (fun hlt => ?_) fun hge => hkend _ ⟨allSL_of fun s hs => ?_, F3⟩
  ·have hlt : (i : Int) < (ps.n : Int) := of_decide_eq_true hlt
   obtain ⟨s, hs⟩ : ∃ s, parts[i]? = some s := ⟨_, List.getElem?_eq_getElem (by omega)⟩
   have hsz := size_mem (List.mem_of_getElem? hs)
   refine join_in (vs := []) (part_ld0 hps F3 hs hpn fun k1 o1 n1 ns1 ps1 hv1 => new_ok fun w4 m24 hm24 hs4 B4 F4 => fill_ok B4 rfl rfl rfl rfl rfl rfl fun w5 B5 F5 => ?_)
   have G5 : Fr noB w w5 := (F3.tr F4).fill (by have := F3.size; omega) F5
   change Blk w5 m24 _ (shCells k1 o1 n1 ns1 ps1) at B5
   refine B5.ldV (callB_ok (sall_ok hp d s (by omega) (by omega) (hv1.fr G5)) fun w6 F6 => ?_)
   by_cases hok : allS p s = true
   ·refine ite_no (by rw [hok]; rfl) (hrec (by omega) _ ⟨fun j x hj hx => ?_, G5.tr F6⟩)
    rcases Nat.lt_succ_iff_lt_or_eq.1 hj with hj | rfl
    ·exact hdone j x hj hx
    ·rw [hs] at hx
     cases hx
     exact hok
   ·refine ite_yes (by simpa using hok) ⟨?_, G5.tr F6⟩
    have : allSL p parts = false := by
     rw [Bool.eq_false_iff]
     intro h
     exact hok (allSL_mem h (List.mem_of_getElem? hs))
    rw [this]
  ·have hge : ¬ (i : Int) < (ps.n : Int) := of_decide_eq_false hge
   obtain ⟨j, hj⟩ := List.mem_iff_getElem?.1 hs
   have := (List.getElem?_eq_some_iff.1 hj).1
   exact hdone j s (by omega) hj
theorem splain_ok (x : ByteArray) {w : World} : AnsB 87 #[.string x] w (plainT (bl x)) := by
 apply c87
 unfold t87 jnBZ
 have hp : plainT (bl x) = ((bl x) == [73, 110, 116] || (bl x) == [66, 111, 111, 108] || (bl x) == [84, 101, 120, 116] || (bl x) == [65, 110, 121]) := rfl
 refine join1_ok (c := .bool) (fun (b : Bool) w' => b = plainT (bl x) ∧ Fr noB w w') (fun kj hkj => ?_) (fun b w' h => done_b h)
 have R0 := Fr.refl noB w
 rw [eq_bl, show bl (ByteArray.mk #[(73 : UInt8), (110 : UInt8), (116 : UInt8)]) = [73, 110, 116] from rfl]
 refine ite_ok (fun h => hkj _ _ ⟨by rw [hp, h]; rfl, R0⟩) fun h1 => ?_
 rw [eq_bl, show bl (ByteArray.mk #[(66 : UInt8), (111 : UInt8), (111 : UInt8), (108 : UInt8)]) = [66, 111, 111, 108] from rfl]
 refine ite_ok (fun h => hkj _ _ ⟨by rw [hp, h1, h]; rfl, R0⟩) fun h2 => ?_
 rw [eq_bl, show bl (ByteArray.mk #[(84 : UInt8), (101 : UInt8), (120 : UInt8), (116 : UInt8)]) = [84, 101, 120, 116] from rfl]
 refine ite_ok (fun h => hkj _ _ ⟨by rw [hp, h1, h2, h]; rfl, R0⟩) fun h3 => hkj _ _ ⟨?_, R0⟩
 rw [eq_bl, show bl (ByteArray.mk #[(65 : UInt8), (110 : UInt8), (121 : UInt8)]) = [65, 110, 121] from rfl, hp, h1, h2, h3]
 rfl
end Go.Proofs.YtngfnokbdcjoeaaGreatDoor
end
section

end
