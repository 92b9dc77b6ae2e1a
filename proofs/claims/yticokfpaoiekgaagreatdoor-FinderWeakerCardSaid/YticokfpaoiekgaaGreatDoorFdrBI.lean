/- The law behind: one part of its proof (joined by program out of my own texts). No condition. -/
import Derived.Test.YticokfpaoiekgaaGreatDoorFdrBH
section
namespace Go.Proofs.YticokfpaoiekgaaGreatDoor
open Go.Lift Go.Lex Go.Shp
def Sorted (w0 : World) (H : List Hit) (l : Sl) (w' : World) : Prop := ∃ V, w'.ownsRow 0 46 3 (.slice l.a l.n l.c) V.length (V.flatMap hvCells) ∧ hvs V = sortH H ∧ Fr noB w0 w'
theorem Sorted.len {w0 : World} {H : List Hit} {l : Sl} {w' : World} {V : List HV3} (hV : hvs V = sortH H) : V.length = H.length := by
 have h := (sortH_perm H).length_eq
 rw [← hV, hvs, List.length_map] at h
 exact h
theorem addS_ok {w0 w : World} {H : List Hit} {l0 : Sl} {o n : ByteArray} {r : Int} (hs : Sorted w0 H l0 w) (hl : H.length ≤ 1000000) {K : Sl → G} {R : Ending → World → Prop} (hk : ∀ l w', Sorted w0 (if r < 1 then H else H ++ [⟨bl o, bl n, r⟩]) l w' → Fr noB w w' → K l R w') :
  callG Tryz.prog 30 #[.slice l0.a l0.n l0.c, .agg #[.string o, .string n, .int .i64 r]] [.one .slice] K R w := by
 obtain ⟨V, own, hV, F⟩ := hs
 have hVl : V.length = H.length := Sorted.len (w0 := w) (l := l0) (w' := w) hV
 refine call_ok (radd_ok (o := o) (n := n) (r := r) own (by omega) (by show Down (hvs V); rw [hV]; exact sortH_down H)) ?_
 rintro e w' ⟨l, V', rfl, own', hV', F'⟩
 refine ⟨((l, ()), ()), rfl, hk l w' ⟨V', own', ?_, F.tr F'⟩ F'⟩
 rw [show hvs V' = V'.map hvHit from rfl, hV', show V.map hvHit = hvs V from rfl, hV]
 by_cases hr : r < 1
 ·rw [if_pos hr, if_pos hr]
 ·rw [if_neg hr, if_neg hr, sortH_snoc]
theorem firstS_ok {w0 w : World} {H : List Hit} {l0 : Sl} (n : Int) (hs : Sorted w0 H l0 w) {R : Ending → World → Prop} {K : Sl → G} (hk : ∀ (l : Sl) V, hvs V = (sortH H).take n.toNat → (l.n = V.length ∧ l.n ≤ l.c) → SrcC w l 3 (V.flatMap hvCells) → K l R w) : callG Tryz.prog 31 #[.slice l0.a l0.n l0.c, .int .i64 n] [.one .slice] K R w := by
 obtain ⟨V, own, hV, F⟩ := hs
 refine call_ok (rfirst_ok n own) ?_
 rintro e w' ⟨rfl, l, rfl, h1, h2⟩
 exact ⟨((l, ()), ()), rfl, hk l _ (by rw [← hV, hvs, List.map_take]) h1 h2⟩
theorem itHit_step (q : Thing → Int) (d : B) (H : List Hit) (L : List Thing) (j : Nat) (it : Thing) (hj : L[j]? = some it) : (if q it < 1 then H ++ dHits q d (L.take j) else (H ++ dHits q d (L.take j)) ++ [⟨d, it.name, q it⟩]) = H ++ dHits q d (L.take (j + 1)) := by
 have htk : L.take (j + 1) = L.take j ++ [it] := by rw [List.take_add_one, hj]; rfl
 rw [htk, dHits_snoc]
 unfold itHit
 by_cases h : q it < 1
 ·rw [if_pos h, if_pos h]
  simp
 ·rw [if_neg h, if_neg h, List.append_assoc]
  rfl
theorem hits_le {q : Thing → Int} {D : List Dep} {i : Nat} {d : Dep} (hd : D[i]? = some d) (j : Nat) : (hitsOf q (D.take i) ++ dHits q d.name (d.items.take j)).length ≤ itemsN D := by
 have h1 := hitsOf_len q (D.take i)
 have h2 := dHits_len q d.name (d.items.take j)
 have h3 := itemsN_take D i d hd
 rw [List.length_take] at h2
 rw [List.length_append]
 have := Nat.min_le_right j d.items.length
 omega
theorem hits_next {q : Thing → Int} {D : List Dep} {i : Nat} {d : Dep} (hd : D[i]? = some d) : hitsOf q (D.take i) ++ dHits q d.name d.items = hitsOf q (D.take (i + 1)) := by
 have : D.take (i + 1) = D.take i ++ [d] := by rw [List.take_add_one, hd]; rfl
 rw [this, hitsOf_snoc]
theorem sorted_none (w : World) : Sorted w [] ⟨none, 0, 0⟩ w := ⟨[], World.ownsRow_nil _ _ _ _, rfl, Fr.refl _ _⟩
set_option maxHeartbeats 2000000 in
theorem rByType_ok {w : World} {s : Sl} {D : List Dep} (hD : DpR w s D) (hN : itemsN D ≤ 1000000) {k2 : Int} {o2 n2 : ByteArray} {ns2 ps2 : Sl} {t : Shape} (ht : ShV w k2 o2 n2 ns2 ps2 t) (n : Int) :
  Calls Tryz.prog 15 #[shArg k2 o2 n2 ns2 ps2, .int .i64 n, .slice s.a s.n s.c] w (HitsP w ((sortH (hitsOf (typeQ t) D)).take n.toNat)) := by
 have hsn := hD.1
 have hsl := hD.2.1
 apply c15
 unfold t15 wrZ ivZ tvZ svZ shZ ldIZ ldSZ ldLZ ld5mZ lf5mZ ld7xZ st7Z nw5Z nz7Z caIZ caLZ jnLZ lpLIZ ixZ
 refine new_ok fun w1 m7 hm7 hs1 B1 F1 => ?_
 change Blk w1 m7 _ (shCells k2 o2 n2 ns2 ps2) at B1
 refine join1_ok (c := .slice) (fun (l : Sl) w' => Sorted w1 (hitsOf (typeQ t) D) l w') (fun kj hkj => ?_) (fun l w2 hs => ?_)
 rotate_left
 ·obtain ⟨V, _, _, F2⟩ := id hs
  exact firstS_ok n hs fun l V h1 h2 h3 => ⟨l, V, rfl, h1, h2, h3, F1.tr F2⟩
 refine countS_ok D.length (by omega) (fun i (l : Sl) w' => Sorted w1 (hitsOf (typeQ t) (D.take i)) l w') (fun rec i l w2 hi hI hrec => ?_) (sorted_none w1)
 refine ite_ok (fun hlt => ?_) fun hge => hkj _ _ ?_
 rotate_left
 ·have hge : ¬ (i : Int) < ((s.n : Nat) : Int) := of_decide_eq_false hge
  rwa [List.take_of_length_le (l := D) (by omega)] at hI
 have hlt : (i : Int) < ((s.n : Nat) : Int) := of_decide_eq_true hlt
 obtain ⟨d, hd⟩ : ∃ d, D[i]? = some d := ⟨_, List.getElem?_eq_getElem (by omega)⟩
 refine join_in (vs := [.one .slice]) (join1_ok (c := .slice) (fun (l : Sl) w' => Sorted w1 (hitsOf (typeQ t) (D.take i) ++ dHits (typeQ t) d.name d.items) l w') (fun kj2 hkj2 => ?_) (fun l w' h => hrec (by omega) l w' (by rwa [hits_next hd] at h)))
 have hdl : d.items.length < 4611686018427387904 := by
  obtain ⟨_, _, _, _, _, _, _, h⟩ := hD.2.2 i d hd
  exact h.2.2.2.1
 refine countS_ok d.items.length (by omega) (fun j (l : Sl) w' => Sorted w1 (hitsOf (typeQ t) (D.take i) ++ dHits (typeQ t) d.name (d.items.take j)) l w') (fun rec2 j l2 w3 hj hI2 hrec2 => ?_) (by simpa [dHits] using hI)
 obtain ⟨V3, own3, hV3, F3⟩ := id hI2
 have G3 := F1.tr F3
 refine dep_its (hD.fr G3) hd fun its hin hil hit => ?_
 refine ite_ok (fun hlt2 => ?_) fun hge2 => hkj2 _ _ ?_
 rotate_left
 ·have hge2 : ¬ (j : Int) < ((its.n : Nat) : Int) := of_decide_eq_false hge2
  rwa [List.take_of_length_le (l := d.items) (by omega)] at hI2
 have hlt2 : (j : Int) < ((its.n : Nat) : Int) := of_decide_eq_true hlt2
 obtain ⟨it, hit1⟩ : ∃ it, d.items[j]? = some it := ⟨_, List.getElem?_eq_getElem (by omega)⟩
 refine join_in (vs := [.one .slice]) (dep_its (hD.fr G3) hd fun its2 hin2 hil2 hit2 => item_ld hit2 hit1 hin2 fun kd nm k o n3 ns ps hiv => new_ok fun w4 m30 hm30 hs4 B4 F4 => fill7_ok B4 rfl rfl rfl rfl rfl rfl rfl rfl fun w5 B5 F5 => ?_)
 have G5 : Fr noB w3 w5 := F4.fill (by omega) F5
 change Blk w5 m30 _ (itCells kd nm k o n3 ns ps) at B5
 have hI5 : Sorted w1 (hitsOf (typeQ t) (D.take i) ++ dHits (typeQ t) d.name (d.items.take j)) l2 w5 := ⟨V3, own_fr0 own3 G5, hV3, F3.tr G5⟩
 refine B5.ld (c := .int .i64) (x := kd) (o := 0) rfl ?_
 refine join1_ok (c := .slice) (fun (l : Sl) w' => Sorted w1 (hitsOf (typeQ t) (D.take i) ++ dHits (typeQ t) d.name (d.items.take (j + 1))) l w') (fun kj3 hkj3 => ?_) (fun l w' h => hrec2 (by omega) l w' h)
 refine ite_ok (fun hk3 => ?_) fun hk3 => hkj3 _ _ ?_
 rotate_left
 ·have hk3 : kd ≠ 3 := by simpa using hk3
  rw [← itHit_step (typeQ t) d.name _ _ j it hit1, if_pos (by unfold typeQ; rw [if_neg (by rw [← hiv.1]; exact hk3)]; omega)]
  exact hI5
 have hk3 : kd = 3 := by simpa using hk3
 refine drew_ok fun w6 F6 z6 => ?_
 have G6 := (G3.tr G5).tr F6
 have B6 := B5.fr F6 (fun h => h)
 have C6 := B1.fr ((F3.tr G5).tr F6) (fun h => h)
 refine dep_nmA (hD.fr G6) hd fun a nmd hnmd hnmz hkeep => B6.ld (c := .str) (x := nm) (o := 1) rfl (B6.ldI (C6.ldV ?_))
 refine callI_ok (rRank_ok (hiv.2.2.2.fr (G5.tr F6)) (ht.fr G6)) fun w7 F7 => ?_
 refine keep_cons (held_one ((B6.fr F7 (fun h => h)).cell (o := 1) rfl)) (keep_cons (hkeep w7 F7) (keep_nil ?_))
 have hI7 : Sorted w1 (hitsOf (typeQ t) (D.take i) ++ dHits (typeQ t) d.name (d.items.take j)) l2 w7 := ⟨V3, own_fr0 own3 ((G5.tr F6).tr F7), hV3, ((F3.tr G5).tr F6).tr F7⟩
 refine addS_ok hI7 (by have := hits_le (q := typeQ t) hd j; omega) fun l w8 hs F8 => hkj3 _ _ ?_
 rw [← itHit_step (typeQ t) d.name _ _ j it hit1]
 have hq : typeQ t it = ((rank it.shape t : Nat) : Int) := by unfold typeQ; rw [if_pos (by rw [← hiv.1]; exact hk3)]
 rw [hiv.2.1, hnmd] at hs
 rw [hq]
 exact hs
set_option maxHeartbeats 2000000 in
theorem rByName_ok {w : World} {s : Sl} {D : List Dep} (hD : DpR w s D) (hN : itemsN D ≤ 1000000) (x : ByteArray) (hx : x.size < 4611686018427387904) (n : Int) :
  Calls Tryz.prog 17 #[.string x, .int .i64 n, .slice s.a s.n s.c] w (HitsP w ((sortH (hitsOf (nameQ (bl x)) D)).take n.toNat)) := by
 have hsn := hD.1
 have hsl := hD.2.1
 apply c17
 unfold t17 wrZ ivZ tvZ svZ ldSZ ldLZ caIZ caLZ jnLZ lpLIZ ixZ
 refine join1_ok (c := .slice) (fun (l : Sl) w' => Sorted w (hitsOf (nameQ (bl x)) D) l w') (fun kj hkj => ?_) (fun l w2 hs => ?_)
 rotate_left
 ·obtain ⟨V, _, _, F2⟩ := id hs
  exact firstS_ok n hs fun l V h1 h2 h3 => ⟨l, V, rfl, h1, h2, h3, F2⟩
 refine countS_ok D.length (by omega) (fun i (l : Sl) w' => Sorted w (hitsOf (nameQ (bl x)) (D.take i)) l w') (fun rec i l w2 hi hI hrec => ?_) (sorted_none w)
 refine ite_ok (fun hlt => ?_) fun hge => hkj _ _ ?_
 rotate_left
 ·have hge : ¬ (i : Int) < ((s.n : Nat) : Int) := of_decide_eq_false hge
  rwa [List.take_of_length_le (l := D) (by omega)] at hI
 have hlt : (i : Int) < ((s.n : Nat) : Int) := of_decide_eq_true hlt
 obtain ⟨d, hd⟩ : ∃ d, D[i]? = some d := ⟨_, List.getElem?_eq_getElem (by omega)⟩
 refine join_in (vs := [.one .slice]) (join1_ok (c := .slice) (fun (l : Sl) w' => Sorted w (hitsOf (nameQ (bl x)) (D.take i) ++ dHits (nameQ (bl x)) d.name d.items) l w') (fun kj2 hkj2 => ?_) (fun l w' h => hrec (by omega) l w' (by rwa [hits_next hd] at h)))
 have hdl : d.items.length < 4611686018427387904 := by
  obtain ⟨_, _, _, _, _, _, _, h⟩ := hD.2.2 i d hd
  exact h.2.2.2.1
 refine countS_ok d.items.length (by omega) (fun j (l : Sl) w' => Sorted w (hitsOf (nameQ (bl x)) (D.take i) ++ dHits (nameQ (bl x)) d.name (d.items.take j)) l w') (fun rec2 j l2 w3 hj hI2 hrec2 => ?_) (by simpa [dHits] using hI)
 obtain ⟨V3, own3, hV3, F3⟩ := id hI2
 refine dep_its (hD.fr F3) hd fun its hin hil hit => ?_
 refine ite_ok (fun hlt2 => ?_) fun hge2 => hkj2 _ _ ?_
 rotate_left
 ·have hge2 : ¬ (j : Int) < ((its.n : Nat) : Int) := of_decide_eq_false hge2
  rwa [List.take_of_length_le (l := d.items) (by omega)] at hI2
 have hlt2 : (j : Int) < ((its.n : Nat) : Int) := of_decide_eq_true hlt2
 obtain ⟨it, hit1⟩ : ∃ it, d.items[j]? = some it := ⟨_, List.getElem?_eq_getElem (by omega)⟩
 refine join_in (vs := [.one .slice]) (dep_its (hD.fr F3) hd fun its2 hin2 hil2 hit2 => item_nm hit2 hit1 hin2 fun nm hnm hnms => drew_ok fun w6 F6 z6 => ?_)
 refine dep_nmA (hD.fr (F3.tr F6)) hd fun a nmd hnmd hnmz hkeep => ?_
 refine callI_ok (rnamed_ok nm x hnms hx) fun w7 F7 => ?_
 refine keep_cons (hkeep w7 F7) (keep_nil ?_)
 have hI7 : Sorted w (hitsOf (nameQ (bl x)) (D.take i) ++ dHits (nameQ (bl x)) d.name (d.items.take j)) l2 w7 := ⟨V3, own_fr0 own3 (F6.tr F7), hV3, (F3.tr F6).tr F7⟩
 refine addS_ok hI7 (by have := hits_le (q := nameQ (bl x)) hd j; omega) fun l w8 hs F8 => hrec2 (by omega) l w8 ?_
 rw [← itHit_step (nameQ (bl x)) d.name _ _ j it hit1]
 have hq : nameQ (bl x) it = ((namedR (bl nm) (bl x) : Nat) : Int) := by unfold nameQ; rw [hnm]
 rw [hnmd] at hs
 rw [hq, ← hnm]
 exact hs
end Go.Proofs.YticokfpaoiekgaaGreatDoor
end
section
namespace Go.Proofs.YticokfpaoiekgaaGreatDoor
open Go.Lift Go.Lex Go.Shp
theorem neHit (x y : Operand) (s n s2 n2 : ByteArray) (r r2 : Int) (w : World) : (eqSem .neq 46 x y (.agg #[.string s, .string n, .int .i64 r]) (.agg #[.string s2, .string n2, .int .i64 r2])).run Tryz.prog w = .ok (.bool (!((s.toList == s2.toList) && ((n.toList == n2.toList) && (r == r2))))) w := by
 have e9 : Tryz.prog.underlying 9 = some .string := by kernel_rfl
 have e3 : Tryz.prog.underlying 3 = some (.int .i64) := by kernel_rfl
 have hu := Tryz.underlying46
 have hf : Tryz.prog.fieldsOf 46 = #[{ name := "Of", type := 9, offset := 0, embedded := false, tag := "", pkgPath := "", byteOffset := 0 },
    { name := "Name", type := 9, offset := 1, embedded := false, tag := "", pkgPath := "", byteOffset := 16 }, { name := "Rank", type := 3, offset := 2, embedded := false, tag := "", pkgPath := "", byteOffset := 32 }] := by
  unfold Program.fieldsOf
  rw [hu]
 have k9 : Tryz.prog.plainKey 9 = true := by kernel_rfl
 have k3 : Tryz.prog.plainKey 3 = true := by kernel_rfl
 simp only [eqSem, Sem.run_bind, run_eqGuard_agg _ _ _ _ _ _ _ Tryz.eqGuardType46, Result.andThen_ok, run_neq_struct]
 rw [run_equalIn_agg _ _ _ _ _ (by rw [hf, hu]) Tryz.stoodInHeld46, hf]
 show Result.andThen ((Op.eqFields 9999 _ _ [_, _, _]).run _ _) _ = _
 have q1 := fun w' : World => run_part_plain (P := Tryz.prog) w' k9 (xs := #[.string s, .string n, .int .i64 r]) (off := 0) (v := .string s) rfl
 have q2 := fun w' : World => run_part_plain (P := Tryz.prog) w' k9 (xs := #[.string s2, .string n2, .int .i64 r2]) (off := 0) (v := .string s2) rfl
 have q3 := fun w' : World => run_part_plain (P := Tryz.prog) w' k9 (xs := #[.string s, .string n, .int .i64 r]) (off := 1) (v := .string n) rfl
 have q4 := fun w' : World => run_part_plain (P := Tryz.prog) w' k9 (xs := #[.string s2, .string n2, .int .i64 r2]) (off := 1) (v := .string n2) rfl
 have q5 := fun w' : World => run_part_plain (P := Tryz.prog) w' k3 (xs := #[.string s, .string n, .int .i64 r]) (off := 2) (v := .int .i64 r) rfl
 have q6 := fun w' : World => run_part_plain (P := Tryz.prog) w' k3 (xs := #[.string s2, .string n2, .int .i64 r2]) (off := 2) (v := .int .i64 r2) rfl
 have p1 : ∀ (a b : ByteArray) (w' : World), (Op.equalIn 9999 9 (.string a) (.string b)).run Tryz.prog w' = .ok (a.toList == b.toList) w' := fun a b w' => run_equalIn_string w' 9998 9 a b e9
 have p3 : ∀ w' : World, (Op.equalIn 9999 3 (.int .i64 r) (.int .i64 r2)).run Tryz.prog w' = .ok (r == r2) w' := fun w' => run_equalIn_int w' 9998 3 .i64 .i64 r r2 e3
 simp only [Op.eqFields, ne_eq, String.reduceEq, not_false_eq_true, if_true, Sem.run_bind, q1, q2, q3, q4, q5, q6, Result.andThen_ok, p1, p3, Sem.run_ite, Sem.run_pure]
 cases (s.toList == s2.toList) <;> cases (n.toList == n2.toList) <;> cases (r == r2) <;> rfl
theorem srcHit_ld {w : World} {l : Sl} {V : List HV3} {i : Nat} {v : HV3} {K : ByteArray → ByteArray → Int → G} {R : Ending → World → Prop} (h : SrcC w l 3 (V.flatMap hvCells)) (hn : l.n = V.length) (hv : V[i]? = some v) (hk : K v.1 v.2.1 v.2.2 R w) :
  idxG l.a l.n (i : Int) 3 (fun (a : Addr) => ldG .str (a.add 0) (fun (s : ByteArray) => ldG .str (a.add 1) (fun (n : ByteArray) => ldG (.int .i64) (a.add 2) (fun (r : Int) => K s n r)))) R w := by
 have hi := (List.getElem?_eq_some_iff.1 hv).1
 cases ha : l.a with
 | none => have := (h.2.1 ha).1; omega
 | some ad =>
  have hc := h.2.2 ad ha
  have at' : ∀ c u, c < 3 → (hvCells v)[c]? = some u → w.cell? ((ad.add (i * 3)).add c) = some u := fun c u hc5 hu => by
   have := hc (i * 3 + c) u (by rw [flat_at hvCells 3 (fun _ _ => rfl) hv c hc5]; exact hu)
   rw [Addr.add_add]
   exact this
  refine idx_ok (a := ad) (n := l.n) (i := (i : Int)) (by omega) (by omega) ?_
  rw [Int.toNat_natCast]
  exact ld_ok (c := .str) (at' 0 _ (by omega) rfl) (ld_ok (c := .str) (at' 1 _ (by omega) rfl) (ld_ok (c := .int .i64) (at' 2 _ (by omega) rfl) hk))
theorem hit_beq (v u : HV3) : ((v.1.toList == u.1.toList) && ((v.2.1.toList == u.2.1.toList) && (v.2.2 == u.2.2))) = decide (hvHit v = hvHit u) := by
 rw [eq_bl, eq_bl, Bool.eq_iff_iff, Bool.and_eq_true, Bool.and_eq_true, beq_iff_eq, beq_iff_eq, beq_iff_eq, decide_eq_true_eq]
 unfold hvHit
 rw [Hit.mk.injEq]
theorem sameHits_ok {w : World} {l0 l1 : Sl} {V0 V1 : List HV3} (h0 : SrcC w l0 3 (V0.flatMap hvCells)) (n0 : l0.n = V0.length) (h1 : SrcC w l1 3 (V1.flatMap hvCells)) (n1 : l1.n = V1.length) (hb : V0.length ≤ 1000000) :
  AnsB 13 #[.slice l0.a l0.n l0.c, .slice l1.a l1.n l1.c] w (decide (hvs V0 = hvs V1)) := by
 apply c13
 unfold t13 wrZ ld3xZ jn0Z lpIZ ixZ
 refine ite_ok (fun h => ⟨?_, Fr.refl _ _⟩) fun h => ?_
 ·have h : ¬ ((l0.n : Nat) : Int) = ((l1.n : Nat) : Int) := by simpa using h
  rw [decide_eq_false]
  intro e
  have := congrArg List.length e
  rw [hvs, hvs, List.length_map, List.length_map] at this
  omega
 have h : ((l0.n : Nat) : Int) = ((l1.n : Nat) : Int) := by simpa using h
 have hl : V0.length = V1.length := by omega
 refine join0_ok (fun w' => hvs V0 = hvs V1 ∧ Fr noB w w') (fun kj hkj => ?_) fun w' ⟨he, F⟩ => ⟨by rw [decide_eq_true he], F⟩
 refine countL_ok V0.length (by omega) (fun i w' => (∀ (j : Nat) a b, j < i → V0[j]? = some a → V1[j]? = some b → hvHit a = hvHit b) ∧ Fr noB w w') (fun rec i w1 hi hI hrec => ?_) ⟨fun j a b hj => by omega, Fr.refl _ _⟩
 obtain ⟨hdone, F1⟩ := hI
 refine ite_ok (fun hlt => ?_) fun hge => hkj _ ⟨?_, F1⟩
 ·have hlt : (i : Int) < ((l0.n : Nat) : Int) := of_decide_eq_true hlt
  obtain ⟨a, ha⟩ : ∃ a, V0[i]? = some a := ⟨_, List.getElem?_eq_getElem (by omega)⟩
  obtain ⟨b, hb⟩ : ∃ b, V1[i]? = some b := ⟨_, List.getElem?_eq_getElem (by omega)⟩
  refine join_in (vs := []) (drew_ok fun w2 F2 z2 => srcHit_ld (h0.fr (F1.tr F2)) n0 ha (srcHit_ld (h1.fr (F1.tr F2)) n1 hb ⟨(!decide (hvHit a = hvHit b), ()), w2, ?_, ?_⟩))
  ·rw [neHit, hit_beq]
   rfl
  ·show iteG (!decide (hvHit a = hvHit b)) _ _ _ _
   by_cases hab : hvHit a = hvHit b
   ·refine ite_no (by rw [decide_eq_true hab]; rfl) (hrec (by omega) _ ⟨fun j x y hj hx hy => ?_, F1.tr F2⟩)
    rcases Nat.lt_succ_iff_lt_or_eq.1 hj with hj | rfl
    ·exact hdone j x y hj hx hy
    ·rw [ha] at hx
     rw [hb] at hy
     cases hx
     cases hy
     exact hab
   ·refine ite_yes (by rw [decide_eq_false hab]; rfl) ⟨?_, F1.tr F2⟩
    rw [decide_eq_false]
    intro e
    have := congrArg (fun l => l[i]?) e
    simp only [hvs, List.getElem?_map, ha, hb, Option.map_some, Option.some.injEq] at this
    exact hab this
 ·have hge : ¬ (i : Int) < ((l0.n : Nat) : Int) := of_decide_eq_false hge
  apply List.ext_getElem?
  intro j
  rw [hvs, hvs, List.getElem?_map, List.getElem?_map]
  rcases Nat.lt_or_ge j V0.length with hj | hj
  ·rw [List.getElem?_eq_getElem hj, List.getElem?_eq_getElem (by omega : j < V1.length), Option.map_some, Option.map_some]
   exact congrArg some (hdone j _ _ (by omega) (List.getElem?_eq_getElem hj) (List.getElem?_eq_getElem (by omega)))
  ·rw [List.getElem?_eq_none hj, List.getElem?_eq_none (by omega)]
end Go.Proofs.YticokfpaoiekgaaGreatDoor
end
section
namespace Go.Shp
open Go.Lex Go.Prs
def tAny : Shape := .mk 8 [] [] [] [.mk 4 [] [] [] [], .mk 6 [] [] [] []]
def tIntA : Shape := .mk 8 [] [] [] [.mk 1 [] [] [] [], .mk 6 [] [] [[97]] [.mk 1 [] [] [] []]]
def tIntE : Shape := .mk 8 [] [] [] [.mk 1 [] [] [] [], .mk 6 [] [] [] []]
def tInt : Shape := .mk 1 [] [] [] []
def xAny : B := [40, 65, 110, 121, 41, 32, 45, 62, 32, 123, 125]
def xIntA : B := [40, 73, 110, 116, 41, 32, 45, 62, 32, 123, 97, 58, 32, 73, 110, 116, 125]
def xIntE : B := [40, 73, 110, 116, 41, 32, 45, 62, 32, 123, 125]
def xInt : B := [73, 110, 116]
def D0 : List Dep := [⟨[113], [⟨3, [103], tAny⟩, ⟨3, [102], tIntA⟩, ⟨2, [79, 102], .mk 0 [] [] [] []⟩]⟩]
theorem hits0 : (sortH (hitsOf (typeQ tIntE) D0)).take (9 : Int).toNat = [⟨[113], [102], 2⟩, ⟨[113], [103], 1⟩] := by kernel_rfl
theorem hits1 : (sortH (hitsOf (nameQ [102]) D0)).take (1 : Int).toNat = [⟨[113], [102], 3⟩] := by kernel_rfl
theorem rank0 : rank tInt tInt = 3 := by kernel_rfl
def Reads (x : B) (q : Shape) : Prop := ∃ l s', scan x = .ok l ∧ l.length ≤ 4097 ∧ (∀ t ∈ l, t.text.length < 4611686018427387904) ∧ wholeF l ⟨0, 0, 0⟩ = (q, s') ∧ s'.err = 0 ∧ s'.at' + 1 = l.length
def readsB (x : B) (l : List Tok) : Bool := decide (l.length ≤ 4097) && l.all (fun t => decide (t.text.length < 4611686018427387904)) && (wholeF l ⟨0, 0, 0⟩).2.err == 0 && (wholeF l ⟨0, 0, 0⟩).2.at' + 1 == l.length
theorem reads_of {x : B} {q : Shape} {l : List Tok} (h1 : scan x = .ok l) (h2 : readsB x l = true) (h3 : (wholeF l ⟨0, 0, 0⟩).1 = q) : Reads x q := by
 unfold readsB at h2
 rw [Bool.and_eq_true, Bool.and_eq_true, Bool.and_eq_true, decide_eq_true_eq, beq_iff_eq, beq_iff_eq] at h2
 exact ⟨l, (wholeF l ⟨0, 0, 0⟩).2, h1, h2.1.1.1, fun t ht => by simpa using List.all_eq_true.1 h2.1.1.2 t ht, by rw [← h3], h2.1.2, h2.2⟩
def toksOf (x : B) : List Tok := match scan x with | .ok l => l | .error _ => []
theorem rAny : Reads xAny tAny := reads_of (l := toksOf xAny) (by kernel_rfl) (by kernel_rfl) (by kernel_rfl)
theorem rIntA : Reads xIntA tIntA := reads_of (l := toksOf xIntA) (by kernel_rfl) (by kernel_rfl) (by kernel_rfl)
theorem rIntE : Reads xIntE tIntE := reads_of (l := toksOf xIntE) (by kernel_rfl) (by kernel_rfl) (by kernel_rfl)
theorem rInt : Reads xInt tInt := reads_of (l := toksOf xInt) (by kernel_rfl) (by kernel_rfl) (by kernel_rfl)
end Go.Shp
namespace Go.Proofs.YticokfpaoiekgaaGreatDoor
open Go.Lift Go.Lex Go.Shp Go.Prs
theorem callTxt_ok {R : Ending → World → Prop} {w : World} {q : Shape} {f : FuncId} {args : Array Value} (hc : Calls Tryz.prog f args w (TxtP w q)) {K : Int → ByteArray → ByteArray → Sl → Sl → Int → Int → G}
  (h : ∀ k o n ns ps w', Fr noB w w' → (∀ w'', Fr (fun b => b < w.heap.size) w' w'' → ShV w'' k o n ns ps q) → K k o n ns ps 0 0 R w') : callG Tryz.prog f args [.agg [.int .i64, .str, .str, .slice, .slice], .agg [.int .i64, .int .i64]] K R w :=
 call_ok hc fun _ w' ⟨k, o, n, ns, ps, he, F, hv⟩ => ⟨((k, o, n, ns, ps, ()), ((0, 0, ()), ())), he, h k o n ns ps w' F hv⟩
theorem typ_ok {w : World} (x : ByteArray) (hg : Glob w) {q : Shape} (hr : Reads (bl x) q) : Calls Tryz.prog 26 #[.string x] w (SortP w q) := by
 obtain ⟨l, s', h1, h2, h3, h4, h5, h6⟩ := hr
 apply c26
 unfold t26 ivZ tvZ shZ ld5mZ st5Z nwZ nz5Z caZ
 refine new_ok fun w1 m1 hm1 hs1 A1 F1 => callTxt_ok (TypeText_ok x (hg.fr F1) h1 h2 h3 h4 h5 h6) fun k o n ns ps w2 F2 hv => ?_
 have hz2 := F2.size
 refine new_ok fun w3 m9 hm9 hs3 B3 F3 => new_ok fun w4 m10 hm10 hs4 C4 F4 => fill_ok (B3.fr F4 (fun h => h)) rfl rfl rfl rfl rfl rfl fun w5 B5 F5 => ?_
 change Blk w5 m9 _ (shCells k o n ns ps) at B5
 have C5 := C4.fr F5 (fun h => by change m10 = m9 at h; omega)
 refine C5.st (o := 0) rfl (by simp) fun w6 C6 F6 => C6.st (o := 1) rfl (by simp) fun w7 C7 F7 => ?_
 have F67 := st_fr F6 F7
 have B7 := B5.fr F67 (fun h => by change m9 = m10 at h; omega)
 have G27 : Fr noB w2 w7 := ((F3.tr F4).fill (by omega) F5).then F67 fun x hx h => by change x = m10 at h; omega
 have A7 := A1.fr (F2.tr G27) (fun h => h)
 refine B7.ldV (fill_ok A7 rfl rfl rfl rfl rfl rfl fun w8 A8 F8 => ?_)
 change Blk w8 m1 _ (shCells k o n ns ps) at A8
 refine A8.ldV ⟨k, o, n, ns, ps, rfl, ((F1.tr F2).tr G27).fill (by omega) F8, fun w'' F'' => hv w'' ?_⟩
 have h1 : Fr (fun b => b < w1.heap.size) w2 w8 := (G27.mono fun _ _ h => h.elim : Fr (fun b => b < w1.heap.size) w2 w7).then F8 fun x hx h => by change x = m1 at h; omega
 exact h1.then F'' fun x hx h => by omega
theorem typ1_ok {R : Ending → World → Prop} {w : World} (x : ByteArray) (hg : Glob w) {q : Shape} (hr : Reads (bl x) q) {K : Int → ByteArray → ByteArray → Sl → Sl → G} (h : ∀ k o n ns ps w', Fr noB w w' → ShV w' k o n ns ps q → K k o n ns ps R w') : callG Tryz.prog 26 #[.string x] [.agg [.int .i64, .str, .str, .slice, .slice]] K R w :=
 callSort_ok (typ_ok x hg hr) fun k o n ns ps w' F hv => h k o n ns ps w' F (hv w' (Fr.refl _ _))
def bq : ByteArray := ByteArray.mk #[113]
def bf : ByteArray := ByteArray.mk #[102]
def bg : ByteArray := ByteArray.mk #[103]
theorem src_blk {w : World} {m : Nat} {T : TypeId} {V : List HV3} (B : Blk w m T (V.flatMap hvCells)) (c : Nat) : SrcC w ⟨some ⟨m, 0, none⟩, V.length, c⟩ 3 (V.flatMap hvCells) :=
 ⟨flat_length hvCells 3 (fun _ _ => rfl), (fun ha => nomatch ha), fun ad ha => by cases ha; exact B.held fun j v hj => by rw [Nat.zero_add]; exact hj⟩
def AwkD (w : World) (m11 m10 : Nat) : Prop := Blk w m11 42 [.string bq, .slice (some ⟨m10, 0, none⟩) 3 3] ∧ ItL w (some ⟨m10, 0, none⟩) [⟨3, [103], tAny⟩, ⟨3, [102], tIntA⟩, ⟨2, [79, 102], .mk 0 [] [] [] []⟩]
theorem AwkD.fr {w w' : World} {m11 m10 : Nat} (h : AwkD w m11 m10) (F : Fr noB w w') : AwkD w' m11 m10 := ⟨h.1.fr F (fun h => h), h.2.fr F⟩
theorem AwkD.row {w : World} {m11 m10 m : Nat} (h : AwkD w m11 m10) {T : TypeId} (B : Blk w m T [.string bq, .slice (some ⟨m10, 0, none⟩) 3 3]) : DpR w ⟨some ⟨m, 0, none⟩, 1, 1⟩ D0 := by
 refine ⟨rfl, by decide, fun i d hi => ?_⟩
 have h0 : i = 0 := by
  have := (List.getElem?_eq_some_iff.1 hi).1
  simpa [D0] using this
 subst h0
 simp only [D0, List.getElem?_cons_zero, Option.some.injEq] at hi
 subst hi
 exact ⟨m, 0, bq, ⟨some ⟨m10, 0, none⟩, 3, 3⟩, rfl, B.cell (o := 0) rfl, B.cell (o := 1) rfl, rfl, by decide, rfl, by decide, h.2⟩
theorem itemsN0 : itemsN D0 ≤ 1000000 := by decide
theorem short0 : ∀ d ∈ D0, ∀ it ∈ d.items, it.name.length ≤ 300 := by
 intro d hd it hit
 simp only [D0, List.mem_singleton] at hd
 subst hd
 simp only [List.mem_cons, List.not_mem_nil, or_false] at hit
 rcases hit with rfl | rfl | rfl <;> decide
set_option maxHeartbeats 4000000 in
theorem awake_ok {w : World} (hg : Glob w) : AnsB 11 #[] w true := by
 apply c11
 unfold t11 ivZ tvZ svZ shZ ldSZ ldLZ nwZ caBZ caIZ caLZ ca5Z jnBZ
 refine typ1_ok (bs xAny) hg (by rw [bl_bs]; exact rAny) fun k1 o1 n1 ns1 ps1 w1 F1 v1 => typ1_ok (bs xIntA) (hg.fr F1) (by rw [bl_bs]; exact rIntA) fun k2 o2 n2 ns2 ps2 w2 F2 v2 => ?_
 refine new_ok fun w3 m10 hm10 hs3 B3 F3 => new_ok fun w4 m11 hm11 hs4 C4 F4 => C4.st (o := 0) rfl (by simp) fun w5 C5 F5 => C5.st (o := 1) rfl (by simp) fun w6 C6 F6 => drew_ok fun w7 F7 z7 => ?_
 have G36 : Fr noB w3 w6 := F4.fill (by omega) (st_fr F5 F6)
 have G37 := G36.tr F7
 have G27 := F3.tr G37
 have G7 : Fr noB w w7 := (F1.tr F2).tr G27
 have e0 : (0 : Int) = (Shape.mk 0 [] [] [] []).kind := rfl
 have A7 : AwkD w7 m11 m10 := by
  have B7 := B3.fr G37 (fun h => h)
  refine ⟨C6.fr F7 (fun h => h), fun i it hi => ?_⟩
  have hi3 : i < 3 := (List.getElem?_eq_some_iff.1 hi).1
  match i, hi3 with
  | 0, _ =>
   cases hi
   exact ⟨m10, 0, 3, bg, k1, o1, n1, ns1, ps1, rfl, B7.held (fun j v hj => by
    have hj7 : j < 7 := (List.getElem?_eq_some_iff.1 hj).1
    match j, hj7 with
    | 0, _ => exact hj | 1, _ => exact hj | 2, _ => exact hj | 3, _ => exact hj | 4, _ => exact hj | 5, _ => exact hj | 6, _ => exact hj), rfl, rfl, by decide, v1.fr (F2.tr G27)⟩
  | 1, _ =>
   cases hi
   exact ⟨m10, 0, 3, bf, k2, o2, n2, ns2, ps2, rfl, B7.held (fun j v hj => by
    have hj7 : j < 7 := (List.getElem?_eq_some_iff.1 hj).1
    match j, hj7 with
    | 0, _ => exact hj | 1, _ => exact hj | 2, _ => exact hj | 3, _ => exact hj | 4, _ => exact hj | 5, _ => exact hj | 6, _ => exact hj), rfl, rfl, by decide, v2.fr G27⟩
  | 2, _ =>
   cases hi
   exact ⟨m10, 0, 2, ByteArray.mk #[79, 102], 0, eB, eB, ⟨none, 0, 0⟩, ⟨none, 0, 0⟩, rfl, B7.held (fun j v hj => by
    have hj7 : j < 7 := (List.getElem?_eq_some_iff.1 hj).1
    match j, hj7 with
    | 0, _ => exact hj | 1, _ => exact hj | 2, _ => exact hj | 3, _ => exact hj | 4, _ => exact hj | 5, _ => exact hj | 6, _ => exact hj), rfl, rfl, by decide, shV_flat (by decide) (by decide)⟩
 have g7 := hg.fr G7
 -- what comes behind the first search
 have tail : ∀ (la : Sl) (VA : List HV3) wa, hvs VA = [⟨[113], [102], 2⟩, ⟨[113], [103], 1⟩] → la.n = VA.length → SrcC wa la 3 (VA.flatMap hvCells) → Fr noB w7 wa → ∀ {K : Sl → G},
   (∀ (lb : Sl) (VB : List HV3) wb, hvs VB = [⟨[113], [102], 3⟩] → lb.n = VB.length → SrcC wb lb 3 (VB.flatMap hvCells) → Fr noB wa wb → K lb (fun e w' => e = .returned (.bool true) ∧ Fr noB w w') wb) →
   ldG .str ⟨m11, 0, none⟩ (fun (s21 : ByteArray) => ldG .slice ⟨m11, 1, none⟩ fun (l22 : Sl) => newG (.cells #[.string s21, .slice l22.a l22.n l22.c] 42 (0, 0)) fun m23 => callG Tryz.prog 16 #[.string (ByteArray.mk #[102]), .int .i64 1, .slice (some ⟨m23, 0, none⟩) 1 1] [.one .slice] K) (fun e w' => e = .returned (.bool true) ∧ Fr noB w w') wa := by
  intro la VA wa hVA hn hs Fa K hK
  have Aa := A7.fr Fa
  refine Aa.1.ld (c := .str) (x := bq) (o := 0) rfl (Aa.1.ldS (o := 1) rfl (new_ok fun wb m23 hm23 hsb Bb Fb => ?_))
  have Ab := Aa.fr Fb
  have hby := ByName_ok (w := wb) (s := ⟨some ⟨m23, 0, none⟩, 1, 1⟩) ((g7.fr Fa).fr Fb) (Ab.row Bb) itemsN0 short0 bf 1
  rw [show bl bf = [102] from rfl, hits1] at hby
  exact callHits_ok hby fun lb VB wc h1 h2 h3 Fc => hK lb VB wc h1 h2.1 h3 (Fb.tr Fc)
 have last : ∀ (la lb : Sl) (VA VB : List HV3) wb, hvs VA = [⟨[113], [102], 2⟩, ⟨[113], [103], 1⟩] → la.n = VA.length → SrcC wb la 3 (VA.flatMap hvCells) → hvs VB = [⟨[113], [102], 3⟩] → lb.n = VB.length → SrcC wb lb 3 (VB.flatMap hvCells) → Fr noB w7 wb → ∀ {kj : Bool → G}, (∀ w', Fr noB w7 w' → kj true (fun e w' => e = .returned (.bool true) ∧ Fr noB w w') w') →
   newG (.cells #[.string (ByteArray.mk #[113]), .string (ByteArray.mk #[102]), .int .i64 2, .string (ByteArray.mk #[113]), .string (ByteArray.mk #[103]), .int .i64 1] 46 (0, 0)) (fun m26 => callG Tryz.prog 13 #[.slice la.a la.n la.c, .slice (some ⟨m26, 0, none⟩) 2 2] [.one .bool] fun (b27 : Bool) => iteG b27
    (newG (.cells #[.string (ByteArray.mk #[113]), .string (ByteArray.mk #[102]), .int .i64 3] 46 (0, 0)) fun m28 => callG Tryz.prog 13 #[.slice lb.a lb.n lb.c, .slice (some ⟨m28, 0, none⟩) 1 1] [.one .bool] fun (b29 : Bool) => iteG b29
     (callG Tryz.prog 26 #[.string (ByteArray.mk #[73, 110, 116])] [.agg [.int .i64, .str, .str, .slice, .slice]] fun (k1 : Int) (o1 n1 : ByteArray) (ns1 ps1 : Sl) => callG Tryz.prog 26 #[.string (ByteArray.mk #[73, 110, 116])] [.agg [.int .i64, .str, .str, .slice, .slice]] fun (k2 : Int) (o2 n2 : ByteArray) (ns2 ps2 : Sl) => callG Tryz.prog 9 #[shArg k1 o1 n1 ns1 ps1, shArg k2 o2 n2 ns2 ps2] [.one (.int .i64)] fun (n40 : Int) => kj (n40 == 3)) (kj false)) (kj false)) (fun e w' => e = .returned (.bool true) ∧ Fr noB w w') wb := by
  intro la lb VA VB wb hVA hna hsa hVB hnb hsb Fb kj hkj
  have lenA : VA.length = 2 := by have := congrArg List.length hVA; rwa [hvs, List.length_map] at this
  have lenB : VB.length = 1 := by have := congrArg List.length hVB; rwa [hvs, List.length_map] at this
  refine new_ok fun wc m26 hm26 hsc Bc Fc => ?_
  have s26 := src_blk (V := [(bq, bf, 2), (bq, bg, 1)]) Bc 2
  have h26 := sameHits_ok (hsa.fr Fc) hna s26 rfl (by omega)
  rw [show decide (hvs VA = hvs [(bq, bf, 2), (bq, bg, 1)]) = true from decide_eq_true (by rw [hVA]; rfl)] at h26
  refine callB_ok h26 fun wd Fd => ite_yes rfl (new_ok fun we m28 hm28 hse Be Fe => ?_)
  have Gbe := (Fc.tr Fd).tr Fe
  have s28 := src_blk (V := [(bq, bf, 3)]) Be 1
  have h28 := sameHits_ok (hsb.fr Gbe) hnb s28 rfl (by omega)
  rw [show decide (hvs VB = hvs [(bq, bf, 3)]) = true from decide_eq_true (by rw [hVB]; rfl)] at h28
  refine callB_ok h28 fun wf Ff => ite_yes rfl ?_
  have Gf := Fb.tr (Gbe.tr Ff)
  refine typ1_ok (bs xInt) (g7.fr Gf) (by rw [bl_bs]; exact Go.Shp.rInt) fun k1 o1 n1 ns1 ps1 wg Fg v1 => typ1_ok (bs xInt) ((g7.fr Gf).fr Fg) (by rw [bl_bs]; exact Go.Shp.rInt) fun k2 o2 n2 ns2 ps2 wh Fh v2 => ?_
  refine callI_ok (Rank_ok (v1.fr Fh) v2) fun wi Fi => ?_
  rw [rank0]
  exact hkj wi (((Gf.tr Fg).tr Fh).tr Fi)
 refine A7.1.ld (c := .str) (x := bq) (o := 0) rfl (A7.1.ldS (o := 1) rfl (both_ok ?_ ?_))
 ·refine typ1_ok (bs xIntE) g7 (by rw [bl_bs]; exact rIntE) fun k3 o3 n3 ns3 ps3 w8 F8 v3 => ?_
  have A8 := A7.fr F8
  refine keep_cons (A8.1.held fun j v hj => by rw [Nat.zero_add]; exact hj) (keep_nil (new_ok fun w9 m19 hm19 hs9 B9 F9 => ?_))
  have A9 := A8.fr F9
  have hby := ByType_ok (w := w9) (s := ⟨some ⟨m19, 0, none⟩, 1, 1⟩) (A9.row B9) itemsN0 (v3.fr F9) 9
  rw [hits0] at hby
  refine callHits_ok hby fun la VA w10 h1 h2 h3 F10 => ?_
  have G10 := (F8.tr F9).tr F10
  refine tail la VA w10 h1 h2.1 h3 G10 fun lb VB w11 q1 q2 q3 F11 => ?_
  refine join1_ok (c := .bool) (fun (b : Bool) w' => b = true ∧ Fr noB w7 w') (fun kj hkj => last la lb VA VB w11 h1 h2.1 (h3.fr F11) q1 q2 q3 (G10.tr F11) fun w' F' => hkj _ _ ⟨rfl, F'⟩) fun b w' ⟨hb, F'⟩ => ⟨by rw [hb], G7.tr F'⟩
 ·refine new_ok fun w8 m42 hm42 hs8 B8 F8 => ?_
  have A8 := A7.fr F8
  refine typ1_ok (bs xIntE) (g7.fr F8) (by rw [bl_bs]; exact rIntE) fun k3 o3 n3 ns3 ps3 w9 F9 v3 => ?_
  have A9 := A8.fr F9
  refine keep_cons (A9.1.held fun j v hj => by rw [Nat.zero_add]; exact hj) (keep_nil ?_)
  have hby := ByType_ok (w := w9) (s := ⟨some ⟨m42, 0, none⟩, 1, 1⟩) (A9.row (B8.fr F9 (fun h => h))) itemsN0 v3 9
  rw [hits0] at hby
  refine callHits_ok hby fun la VA w10 h1 h2 h3 F10 => ?_
  have G10 := (F8.tr F9).tr F10
  refine tail la VA w10 h1 h2.1 h3 G10 fun lb VB w11 q1 q2 q3 F11 => ?_
  refine join1_ok (c := .bool) (fun (b : Bool) w' => b = true ∧ Fr noB w7 w') (fun kj hkj => last la lb VA VB w11 h1 h2.1 (h3.fr F11) q1 q2 q3 (G10.tr F11) fun w' F' => hkj _ _ ⟨rfl, F'⟩) fun b w' ⟨hb, F'⟩ => ⟨by rw [hb], G7.tr F'⟩
end Go.Proofs.YticokfpaoiekgaaGreatDoor
end
