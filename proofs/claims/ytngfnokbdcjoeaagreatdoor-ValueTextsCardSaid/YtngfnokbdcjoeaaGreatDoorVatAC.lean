/- The law behind: one part of its proof (joined by program out of my own texts). No condition. -/
import Derived.Test.YtngfnokbdcjoeaaGreatDoorVatAB
import Derived.Lib.AppendStr
import Derived.KernelRfl
import Derived.Test.YtngfnokbdcjoeaaGreatDoorProg
section
namespace Go.Lift
def Blk (w : World) (b : Nat) (t : TypeId) (l : List Value) : Prop := w.heap[b]? = some (.cells l.toArray t (0, 0))
theorem Blk.lt {w : World} {b : Nat} {t : TypeId} {l : List Value} (h : Blk w b t l) : b < w.heap.size := (Array.getElem?_eq_some_iff.1 h).1
theorem Blk.cell {w : World} {b : Nat} {t : TypeId} {l : List Value} (h : Blk w b t l) {o : Nat} {v : Value} (hv : l[o]? = some v) : w.cell? ⟨b, o, none⟩ = some v := by
 unfold Blk at h
 simp [World.cell?, h, hv]
theorem Blk.frozen {w : World} {b : Nat} {t : TypeId} {l : List Value} (h : Blk w b t l) (o : Nat) : w.frozen? ⟨b, o, none⟩ = false := by
 unfold Blk at h
 simp [World.frozen?, h]
theorem Blk.held {w : World} {b : Nat} {t : TypeId} {l : List Value} (h : Blk w b t l) {o : Nat} {vs : List Value} (hv : ∀ j v, vs[j]? = some v → l[o + j]? = some v) : Held w (⟨b, o, none⟩, vs) := by
 intro j v hj
 show w.cell? (Addr.add ⟨b, o, none⟩ j) = some v
 rw [Addr.add_lit]
 exact h.cell (hv j v hj)
structure Fr (S : Nat → Prop) (w w' : World) : Prop where
 os : w'.os = w.os
 output : w'.output = w.output
 size : w.heap.size ≤ w'.heap.size
 blk : ∀ k, k < w.heap.size → ¬ S k → w'.heap[k]? = w.heap[k]?
def noB : Nat → Prop := fun _ => False
def oneB (b : Nat) : Nat → Prop := fun k => k = b
theorem Fr.refl (S : Nat → Prop) (w : World) : Fr S w w := ⟨rfl, rfl, Nat.le_refl _, fun _ _ _ => rfl⟩
theorem Fr.trans {S T : Nat → Prop} {a b c : World} (h : Fr S a b) (k : Fr T b c) : Fr (fun x => S x ∨ (T x ∧ x < a.heap.size)) a c :=
 ⟨k.os.trans h.os, k.output.trans h.output, Nat.le_trans h.size k.size, fun i hi hn =>
  (k.blk i (Nat.lt_of_lt_of_le hi h.size) (fun ht => hn (.inr ⟨ht, hi⟩))).trans (h.blk i hi (fun hs => hn (.inl hs)))⟩
theorem Fr.mono {S T : Nat → Prop} {a b : World} (h : Fr S a b) (hs : ∀ x, x < a.heap.size → S x → T x) : Fr T a b :=
 ⟨h.os, h.output, h.size, fun i hi hn => h.blk i hi (fun hx => hn (hs i hi hx))⟩
theorem Fr.then {S T : Nat → Prop} {a b c : World} (h : Fr S a b) (k : Fr T b c) (hs : ∀ x, x < a.heap.size → T x → S x) : Fr S a c :=
 (h.trans k).mono fun x hx hor => hor.elim id fun ht => hs x hx ht.1
theorem Blk.fr {S : Nat → Prop} {w w' : World} {b : Nat} {t : TypeId} {l : List Value} (h : Blk w b t l) (f : Fr S w w') (hb : ¬ S b) : Blk w' b t l := by
 have hl := h.lt
 unfold Blk at *
 rw [f.blk b hl hb, h]
theorem Fr.cell {S : Nat → Prop} {w w' : World} (f : Fr S w w') {a : Addr} {v : Value} (h : w.cell? a = some v) (hb : ¬ S a.block) : w'.cell? a = some v := by
 rw [World.cell?_of_block (f.blk a.block (World.block_lt_of_cell? w a h) hb)]
 exact h
theorem Fr.held {S : Nat → Prop} {w w' : World} (f : Fr S w w') {x : Fact} (h : Held w x) (hb : ¬ S x.1.block) : Held w' x := fun j v hj =>
 f.cell (h j v hj) (by
  have e : (x.1.add j).block = x.1.block := by unfold Addr.add; split <;> rfl
  rw [e]; exact hb)
theorem Fr.of_grown {w w' : World} {row : Option Nat} (h : w.grownBy w' row) : Fr (fun k => row = some k) w w' :=
 ⟨h.os, h.output, h.size, fun k hk hn => h.block k hk (fun e => hn e.symm)⟩
theorem fr_drew (w : World) : Fr noB w w.drew := ⟨rfl, rfl, Nat.le_refl _, fun _ _ _ => rfl⟩
theorem fr_alloc (w : World) (o : Obj) : Fr noB w (w.alloc o) := ⟨rfl, rfl, by simp, fun k hk _ => RowKit.Below.heap_alloc w o k hk⟩
theorem fr_setCell (w : World) (a : Addr) (v : Value) : Fr (oneB a.block) w (w.setCell a v) :=
 ⟨rfl, rfl, by simp, fun k _ hn => heap_setCell_other w a k v hn⟩
theorem fr_setRow (w : World) (g : Nat) (cs : Array Value) : Fr (oneB g) w (w.setRow g cs) :=
 ⟨rfl, rfl, by simp, fun k _ hn => setRow_other w g k cs hn⟩
theorem blk_alloc (w : World) (cs : Array Value) (t : TypeId) : Blk (w.alloc (.cells cs t (0, 0))) w.heap.size t cs.toList := by
 unfold Blk
 rw [heap_alloc_new]
theorem Blk.set {w : World} {b : Nat} {t : TypeId} {l : List Value} (h : Blk w b t l) (o : Nat) (v : Value) : Blk (w.setCell ⟨b, o, none⟩ v) b t (l.set o v) := by
 unfold Blk at *
 rw [heap_setCell_same w b o l.toArray t v h]
 simp
theorem Blk.row {w : World} {b : Nat} {t : TypeId} {l : List Value} (h : Blk w b t l) (cs : List Value) : Blk (w.setRow b cs.toArray) b t cs :=
 setRow_heap w b _ _ t _ h
section
variable {R : Ending → World → Prop} {w : World}
theorem nn_ok {a : Addr} {k : Addr → G} (h : k a R w) : nnG (some a) k R w := h
theorem ite_ok {b : Bool} {x y : G} (h1 : b = true → x R w) (h2 : b = false → y R w) : iteG b x y R w := by
 cases b
 ·exact h2 rfl
 ·exact h1 rfl
theorem ite_yes {b : Bool} {x y : G} (hb : b = true) (h : x R w) : iteG b x y R w := by
 subst hb
 exact h
theorem ite_no {b : Bool} {x y : G} (hb : b = false) (h : y R w) : iteG b x y R w := by
 subst hb
 exact h
theorem ld_ok {c : CT} {a : Addr} {k : c.T → G} {x : c.T} (hc : w.cell? a = some (c.val x)) (h : k x R w) : ldG c a k R w := ⟨x, hc, h⟩
theorem Blk.ld {b : Nat} {t : TypeId} {l : List Value} (B : Blk w b t l) {o : Nat} {c : CT} {k : c.T → G} {x : c.T} (hv : l[o]? = some (c.val x)) (h : k x R w) : ldG c ⟨b, o, none⟩ k R w :=
 ⟨x, B.cell hv, h⟩
theorem Blk.ldS {b : Nat} {t : TypeId} {l : List Value} (B : Blk w b t l) {o : Nat} {k : Sl → G} {a : Option Addr} {n c : Nat} (hv : l[o]? = some (.slice a n c)) (h : k ⟨a, n, c⟩ R w) : ldG .slice ⟨b, o, none⟩ k R w :=
 ⟨⟨a, n, c⟩, B.cell hv, h⟩
theorem Blk.ldRow {b : Nat} {t : TypeId} {l : List Value} (B : Blk w b t l) {o n : Nat} {k : Array Value → G} {cs : List Value} (hn : cs.length = n) (hv : ∀ j v, cs[j]? = some v → l[o + j]? = some v) (h : k cs.toArray R w) :
  ldRowG n ⟨b, o, none⟩ k R w := ⟨cs.toArray, by simpa using hn, by simpa using B.held hv, h⟩
theorem Blk.st {b : Nat} {t : TypeId} {l : List Value} (B : Blk w b t l) {o : Nat} {v : Value} {k : G} (hv : v.oneCell' = true) (ho : o < l.length)
  (h : ∀ w', Blk w' b t (l.set o v) → Fr (oneB b) w w' → k R w') : stG ⟨b, o, none⟩ v k R w :=
 ⟨hv, ⟨_, B.cell (List.getElem?_eq_getElem ho)⟩, B.frozen o, h _ (B.set o v) (fr_setCell w ⟨b, o, none⟩ v)⟩
theorem new_ok {cs : Array Value} {t : TypeId} {k : Nat → G} (h : ∀ w' b, b = w.heap.size → w'.heap.size = w.heap.size + 1 → Blk w' b t cs.toList → Fr noB w w' → k b R w') : newG (.cells cs t (0, 0)) k R w :=
 h _ _ rfl (by simp) (blk_alloc w cs t) (fr_alloc w _)
theorem drew_ok {k : G} (h : ∀ w', Fr noB w w' → w'.heap.size = w.heap.size → k R w') : drewG k R w := h _ (fr_drew w) rfl
theorem assume_ok {k : G} {b : Bool} (hb : b = true) (h : k R w) : assumeG b k R w := by
 subst hb
 exact h
theorem idx_ok {a : Addr} {n : Nat} {i : Int} {sz : Nat} {k : Addr → G} (h0 : 0 ≤ i) (h1 : i < n) (h : k (a.add (i.toNat * sz)) R w) : idxG (some a) n i sz k R w := ⟨a, rfl, h0, h1, h⟩
theorem idxB_ok {b o n : Nat} {i : Nat} {sz : Nat} {k : Addr → G} (h1 : i < n) (h : k ⟨b, o + i * sz, none⟩ R w) : idxG (some ⟨b, o, none⟩) n (i : Int) sz k R w :=
 ⟨_, rfl, by omega, by omega, by rw [Int.toNat_natCast, Addr.add_lit]; exact h⟩
theorem call_ok {P : Program} {f : FuncId} {args : Array Value} {vs : List VT} {k : CurV G vs} {Φ : Ending → World → Prop} (hc : Calls P f args w Φ)
  (h : ∀ e w', Φ e w' → ∃ xs, e = .returned (packV vs xs) ∧ uncV k xs R w') : callG P f args vs k R w := hc.mono fun e w' he => .inl (h e w' he)
theorem callPan_ok {P : Program} {f : FuncId} {args : Array Value} {vs : List VT} {k : CurV G vs} {Φ : Ending → World → Prop} (hc : Calls P f args w Φ)
  (h : ∀ e w', Φ e w' → (∃ xs, e = .returned (packV vs xs) ∧ uncV k xs R w') ∨ ∃ c, e = .panicked c ∧ R (.panicked c) w') : callG P f args vs k R w := hc.mono h
theorem keep_nil {k : G} (h : k R w) : keepG [] k R w := ⟨fun _ h => (by simp at h), h⟩
theorem keep_cons {f : Fact} {fs : List Fact} {k : G} (hf : Held w f) (h : keepG fs k R w) : keepG (f :: fs) k R w :=
 ⟨fun g hg => (List.mem_cons.1 hg).elim (fun e => e ▸ hf) (h.1 g), h.2⟩
theorem held_one {a : Addr} {v : Value} (h : w.cell? a = some v) : Held w (a, [v]) := fun j u hj => by
 cases j with
 | zero =>
  simp only [List.getElem?_cons_zero, Option.some.injEq] at hj
  subst hj
  show w.cell? (a.add 0) = some v
  rw [Addr.add_zero']
  exact h
 | succ j => simp at hj
theorem Blk.held1 {b : Nat} {t : TypeId} {l : List Value} (B : Blk w b t l) {o : Nat} {v : Value} (hv : l[o]? = some v) : Held w (⟨b, o, none⟩, [v]) := held_one (B.cell hv)
theorem cat_ok {a b : ByteArray} {k : ByteArray → G} (hs : a.size + b.size ≤ 9223372036854775807) (h : k (a ++ b) R w) : catG a b k R w := ⟨hs, h⟩
theorem sub_ok {s : ByteArray} {l h' : Int} {k : ByteArray → G} (h0 : 0 ≤ l) (h1 : l ≤ h') (h2 : h' ≤ s.size) (h : k (s.extract l.toNat h'.toNat) R w) : subG s l h' k R w := ⟨h0, h1, h2, h⟩
theorem reslice_ok {p : Option Addr} {c : Nat} {l h' m : Int} {sz : Nat} {k : Option Addr → Nat → Nat → G} (h0 : 0 ≤ l) (h1 : l ≤ h') (h2 : h' ≤ m) (h3 : m ≤ c)
  (h : k (if m.toNat = l.toNat then p else p.map (·.add (l.toNat * sz))) (h'.toNat - l.toNat) (m.toNat - l.toNat) R w) : resliceG p c l h' m sz k R w := ⟨h0, h1, h2, h3, h⟩
theorem both_ok {x y : G} (h1 : x R w) (h2 : y R w) : bothG x y R w := ⟨h1, h2⟩
theorem join_in {vs : List VT} {x : CurV G vs → G} {k : CurV G vs} (h : x k R w) : joinG vs x k R w := h
theorem join1_ok {c : CT} {x : (c.T → G) → G} {k : c.T → G} (M : c.T → World → Prop) (hx : ∀ kj : c.T → G, (∀ y w', M y w' → kj y R w') → x kj R w) (hk : ∀ y w', M y w' → k y R w') : joinG [.one c] x k R w := hx k hk
theorem join0_ok {x : G → G} {k : G} (M : World → Prop) (hx : ∀ kj : G, (∀ w', M w' → kj R w') → x kj R w) (hk : ∀ w', M w' → k R w') : joinG [] x k R w := hx k hk
theorem reV {vs : List VT} {f : HV vs → G} {xs : HV vs} (h : f xs R w) : uncV (curV f) xs R w := by rw [uncV_curV]; exact h
theorem loop_ok {vs : List VT} {body : CurV G vs → CurV G vs} (I : HV vs → World → Prop) (μ : HV vs → Nat)
  (hbody : ∀ (rec : CurV G vs) (xs : HV vs) (w : World), I xs w → (∀ ys w', I ys w' → μ ys < μ xs → uncV rec ys R w') → uncV (body rec) xs R w)
  {xs : HV vs} (h : I xs w) : uncV (loopG vs body) xs R w := by
 refine reV ?_
 have key : ∀ n xs w, I xs w → μ xs < n → uncV (iterG vs body n) xs R w := by
  intro n
  induction n with
  | zero => intro xs w _ hn; omega
  | succ n ih =>
   intro xs w hI hn
   exact hbody _ xs w hI fun ys w' hy hlt => ih ys w' hy (by omega)
 exact ⟨μ xs + 1, key _ xs w h (Nat.lt_succ_self _)⟩
theorem loop1_ok {c : CT} {body : (c.T → G) → c.T → G} (I : c.T → World → Prop) (μ : c.T → Nat)
  (hbody : ∀ (rec : c.T → G) (x : c.T) (w : World), I x w → (∀ y w', I y w' → μ y < μ x → rec y R w') → body rec x R w)
  {x : c.T} (h : I x w) : loopG [.one c] body x R w :=
 loop_ok (vs := [.one c]) (body := body) (fun xs w => I xs.1.1 w) (fun xs => μ xs.1.1) (fun rec xs w hI hr => hbody rec xs.1.1 w hI fun y w' hy hl => hr ((y, ()), ()) w' hy hl) (xs := ((x, ()), ())) h
end
section
variable {P : Program} {R : Ending → World → Prop} {w : World}
theorem copy_ok {b o dn dc sn sc : Nat} {sa : Addr} {dT sT ty elem : TypeId} (hu : P.underlying dT = some (.slice elem)) (hs : (P.info? elem).map (·.size) = some 1)
  {t : TypeId} {l cs : List Value} (B : Blk w b t l) (hn : cs.length = min sn dn) (hsrc : Held w (sa, cs)) (hfit : o + cs.length ≤ l.length) (h1 : ∀ v ∈ cs, v.oneCell' = true)
  {k : Int → G} (h : ∀ w', Blk w' b t (l.take o ++ (cs ++ l.drop (o + cs.length))) → Fr (oneB b) w w' → w'.heap.size = w.heap.size → k cs.length R w') :
  opG P (Builtin.copy_ #[dT, sT] ty #[.slice (some ⟨b, o, none⟩) dn dc, .slice (some sa) sn sc]) (.one (.int .i64)) k R w := by
 have hr := run_copy_row (P := P) w dT sT ty elem b o dn dc sa sn sc l.toArray t cs hu hs B hn hsrc (by simpa using hfit) h1
 refine ⟨((cs.length : Int), ()), _, hr, h _ ?_ (fr_setRow w b _) (by simp)⟩
 rw [← List.append_assoc]
 exact B.row _
theorem stRow_ok {b o : Nat} {t T : TypeId} {cs : Array Value} {l : List Value} (hi : ∃ i, P.info? t = some i ∧ i.size = cs.size) (B : Blk w b T l) (hfit : o + cs.size ≤ l.length) (h1 : ∀ v ∈ cs.toList, v.oneCell' = true)
  {k : G} (h : ∀ w', Blk w' b T (l.take o ++ (cs.toList ++ l.drop (o + cs.size))) → Fr (oneB b) w w' → w'.heap.size = w.heap.size → k R w') :
  opUG P (storeVar t ⟨b, o, none⟩ (.agg cs)) k R w := by
 obtain ⟨i, hi, hs⟩ := hi
 have hr := run_storeCells_at P b o T cs.toList 0 l.toArray w B (by simpa using hfit) h1
 refine ⟨_, by rw [run_storeVar_agg hi _ _ (by simp only [Value.cells]; exact hs.symm)]; exact hr, h _ ?_ (fr_setRow w b _) (by simp)⟩
 rw [← List.append_assoc]
 have := B.row (l.take o ++ cs.toList ++ l.drop (o + cs.size))
 simpa using this
end
section
variable {P : Program} {R : Ending → World → Prop} {w : World}
theorem append_ok {t ty e : TypeId} {i : TypeInfo} {z : Value} {size bytes : Nat} (ht : P.underlying t = some (.slice e)) (hi : P.info? e = some i) (hz : i.zero = some z)
  (hsize : i.size = size) (hby : i.bytes = bytes) (hzs : z.cells.size = size) (hsz : 0 < size) {s : Sl} {n : Nat} {xs : List Value} (hown : w.ownsRow 0 e size (.slice s.a s.n s.c) n xs)
  {ad : Addr} {m c : Nat} {news : List Value} (hl : news.length = m * size) (hnews : Held w (ad, news)) (h1 : ∀ u ∈ news, u.oneCell' = true)
  (h63 : n + m ≤ maxLen) (hbytes : (n + m) * bytes ≤ 140737488355328) {k : Sl → G}
  (h : ∀ (s' : Sl) w', w'.ownsRow 0 e size (.slice s'.a s'.n s'.c) (n + m) (xs ++ news) → Fr (fun k => ∃ a, s.a = some a ∧ a.block = k) w w' → (∀ a, s'.a = some a → s.a = some a ∨ (w.heap.size ≤ a.block ∧ a.block < w'.heap.size)) → k s' R w') :
  opG P (Builtin.append_ #[t, t] ty #[.slice s.a s.n s.c, .slice (some ad) m c]) (.one .slice) k R w := by
 obtain ⟨v', w', hr, h2, h3, h4⟩ := run_append_own (P := P) w 0 t ty e i z size bytes ht hi hz hsize hby hzs hsz _ n xs hown ad m c news hl hnews h1 h63 hbytes (Nat.zero_le _)
 have hv : ∃ s' : Sl, v' = .slice s'.a s'.n s'.c := by
  rcases h2.2 with ⟨rfl, _⟩ | ⟨g, cap, cur, rfl, _⟩
  ·exact ⟨⟨none, 0, 0⟩, rfl⟩
  ·exact ⟨⟨some ⟨g, 0, none⟩, _, cap⟩, rfl⟩
 obtain ⟨s', rfl⟩ := hv
 refine ⟨(s', ()), w', hr, h s' w' h2 ((Fr.of_grown h3).mono fun x _ hx => ?_) ?_⟩
 ·simp only [Value.ownBlock] at hx
  cases ha : s.a with
  | none => simp [ha] at hx
  | some a => simp [ha] at hx; exact ⟨a, rfl, hx⟩
 ·intro a ha
  have hlt : a.block < w'.heap.size := by
   rcases h2.2 with ⟨hv, _⟩ | ⟨g, cap, cur, hv, _, hg, _⟩
   ·simp only [Value.slice.injEq] at hv; rw [hv.1] at ha; cases ha
   ·simp only [Value.slice.injEq] at hv
    rw [hv.1] at ha
    cases ha
    exact (Array.getElem?_eq_some_iff.1 hg).1
  have hn63 : ((n + m : Nat) : Int) ≤ 9223372036854775807 := by unfold maxLen at h63; omega
  have new : ∀ (n' c' : Nat) (W : World), (Builtin.append_ #[t, t] ty #[.slice s.a s.n s.c, .slice (some ad) m c]).run P w = .ok (.slice (some ⟨w.heap.size, 0, none⟩) n' c') W → s.a = some a ∨ (w.heap.size ≤ a.block ∧ a.block < w'.heap.size) := by
   intro n' c' W hW
   rw [hr] at hW
   simp only [Result.ok.injEq, Value.slice.injEq] at hW
   rw [hW.1.1] at ha
   cases ha
   exact .inr ⟨Nat.le_refl _, hlt⟩
  rcases hown.2 with ⟨hv, hn0⟩ | ⟨g, cap, cur, hv, _, hg, hnc, _, hsz', htake⟩
  ·simp only [Value.slice.injEq] at hv
   obtain ⟨e1, e2, e3⟩ := hv
   subst hn0
   by_cases hm : m = 0
   ·have hx : news = [] := List.eq_nil_of_length_eq_zero (by rw [hl, hm, Nat.zero_mul])
    have := (h4.2 ⟨by rw [e1, e2, e3], hm⟩)
    simp only [Value.slice.injEq] at this
    rw [this.1] at ha
    cases ha
   ·have := run_append_nil (P := P) w t ty e i z ht hi hz ad m c news (by rw [hl, hsize]) hnews (by omega) (by omega) (by rw [hby]; have := hbytes; simp only [Nat.zero_add] at this; omega)
    rw [show (Value.slice none 0 0) = Value.slice s.a s.n s.c by rw [e1, e2, e3]] at this
    exact new _ _ _ this
  ·simp only [Value.slice.injEq] at hv
   obtain ⟨e1, e2, e3⟩ := hv
   by_cases hroom : n + m ≤ cap
   ·have hfit : n * i.size + news.length ≤ cur.size := by rw [hl, hsz', hsize, ← Nat.add_mul]; exact Nat.mul_le_mul_right _ hroom
    have := run_append_room (P := P) w t ty e i ht hi g n cap cur hg ad m c news (by rw [hl, hsize]) hnews h1 hroom hfit
    rw [e1, e2, e3] at hr
    rw [this] at hr
    simp only [Result.ok.injEq, Value.slice.injEq] at hr
    rw [← hr.1.1] at ha
    rw [e1]
    exact .inl ha
   ·have holds : ∀ j u, xs[j]? = some u → w.cell? ((⟨g, 0, none⟩ : Addr).add j) = some u := hown.cells (g := g) (by rw [e1]; rfl)
    have := run_append_grow (P := P) w t ty e i z ht hi hz ⟨g, 0, none⟩ n cap xs (by rw [hown.1, hsize]) holds ad m c news (by rw [hl, hsize]) hnews (by omega) hn63 (growslice_fits (by omega) (by rw [hby]; exact hbytes))
    rw [show (Value.slice (some ⟨g, 0, none⟩) n cap) = Value.slice s.a s.n s.c by rw [e1, e2, e3]] at this
    exact new _ _ _ this
def byteCells (l : List UInt8) : List Value := l.map fun b => .int .u8 (b.toNat : Int)
theorem make_ok {t e : TypeId} {i : TypeInfo} {z : Value} (ht : P.underlying t = some (.slice e)) (hi : P.info? e = some i) (hz : i.zero = some z)
  {l c : Int} (h0 : 0 ≤ l) (hlc : l ≤ c) (hb : (i.bytes : Int) * c ≤ 281474976710656) (h63 : c ≤ 9223372036854775807) {k : Sl → G}
  (h : ∀ w' b, b = w.heap.size → w'.heap.size = w.heap.size + 1 → Blk w' b e (madeCells z.cells (c.toNat * i.size)).toList → Fr noB w w' → k ⟨some ⟨b, 0, none⟩, l.toNat, c.toNat⟩ R w') :
  opG P (Instr.makeSlice t (.int .i64 l) (.int .i64 c)) (.one .slice) k R w :=
 ⟨(⟨some ⟨w.heap.size, 0, none⟩, l.toNat, c.toNat⟩, ()), _, run_make w t e i z ht hi hz .i64 .i64 l c h0 hlc hb h63, h _ _ rfl (by simp) (blk_alloc w _ e) (fr_alloc w _)⟩
end
theorem wrap_ok {n : Int} (h1 : -9223372036854775808 ≤ n) (h2 : n ≤ 9223372036854775807) : IntKind.wrap .i64 n = n := by
 rw [IntKind.wrap_i64]; omega
theorem flat_at {α β : Type} (f : α → List β) (m : Nat) : ∀ {l : List α} (_ : ∀ x ∈ l, (f x).length = m) {k : Nat} {x : α} (_ : l[k]? = some x) (j : Nat) (_ : j < m), (l.flatMap f)[k * m + j]? = (f x)[j]?
 | y :: l, hf, 0, x, hk, j, hj => by
  simp only [List.getElem?_cons_zero, Option.some.injEq] at hk
  subst hk
  rw [List.flatMap_cons, Nat.zero_mul, Nat.zero_add, List.getElem?_append_left (by rw [hf y (by simp)]; exact hj)]
 | y :: l, hf, k + 1, x, hk, j, hj => by
  simp only [List.getElem?_cons_succ] at hk
  have hy := hf y (by simp)
  have e : (k + 1) * m + j = (f y).length + (k * m + j) := by rw [hy, Nat.succ_mul]; omega
  rw [List.flatMap_cons, e, List.getElem?_append_right (by omega), Nat.add_sub_cancel_left]
  exact flat_at f m (fun z hz => hf z (by simp [hz])) hk j hj
 | [], _, _, _, hk, _, _ => by simp at hk
end Go.Lift
end
section
namespace Go.Lift
section
variable {P : Program} {R : Ending → World → Prop} {w : World}
theorem slice_of_own {base e sz n : Nat} {v : Value} {xs : List Value} (h : w.ownsRow base e sz v n xs) : ∃ s : Sl, v = .slice s.a s.n s.c ∧ s.n = n ∧ ∀ a, s.a = some a → base ≤ a.block := by
 rcases h.2 with ⟨rfl, h0⟩ | ⟨g, cap, cur, rfl, h0, _⟩
 ·exact ⟨⟨none, 0, 0⟩, rfl, h0.symm, fun a ha => by cases ha⟩
 ·exact ⟨⟨some ⟨g, 0, none⟩, n, cap⟩, rfl, rfl, fun a ha => by cases ha; exact h0⟩
theorem fr_own {base e sz n : Nat} {s : Sl} {xs : List Value} {w' : World} (h : w.ownsRow base e sz (.slice s.a s.n s.c) n xs) (g : w.grownBy w' (Value.ownBlock (.slice s.a s.n s.c))) : Fr (fun k => base ≤ k) w w' :=
 (Fr.of_grown g).mono fun x _ hx => (h.lt x hx).1
theorem appendB_ok {base : Nat} {t ty e : TypeId} {i : TypeInfo} {z : Value} {size bytes : Nat} (ht : P.underlying t = some (.slice e)) (hi : P.info? e = some i) (hz : i.zero = some z)
  (hsize : i.size = size) (hby : i.bytes = bytes) (hzs : z.cells.size = size) (hsz : 0 < size) {s : Sl} {n : Nat} {xs : List Value} (hown : w.ownsRow base e size (.slice s.a s.n s.c) n xs)
  {ad : Addr} {m c : Nat} {news : List Value} (hl : news.length = m * size) (hnews : Held w (ad, news)) (h1 : ∀ u ∈ news, u.oneCell' = true)
  (h63 : n + m ≤ maxLen) (hbytes : (n + m) * bytes ≤ 140737488355328) (hb : base ≤ w.heap.size) {k : Sl → G}
  (h : ∀ (s' : Sl) w', w'.ownsRow base e size (.slice s'.a s'.n s'.c) (n + m) (xs ++ news) → Fr (fun k => base ≤ k) w w' → k s' R w') :
  opG P (Builtin.append_ #[t, t] ty #[.slice s.a s.n s.c, .slice (some ad) m c]) (.one .slice) k R w := by
 obtain ⟨v', w', hr, h2, h3, _⟩ := run_append_own (P := P) w base t ty e i z size bytes ht hi hz hsize hby hzs hsz _ n xs hown ad m c news hl hnews h1 h63 hbytes hb
 obtain ⟨s', rfl, _, _⟩ := slice_of_own h2
 exact ⟨(s', ()), w', hr, h s' w' h2 (fr_own hown h3)⟩
theorem appendSB_ok {base : Nat} {t u ty e : TypeId} {i : TypeInfo} (ht : P.underlying t = some (.slice e)) (hu : P.underlying u = some .string) (hi : P.info? e = some i) (hz : i.zero = some (.int .u8 0))
  (hsize : i.size = 1) (hby : i.bytes = 1) {s : Sl} {n : Nat} {xs : List Value} (hown : w.ownsRow base e 1 (.slice s.a s.n s.c) n xs) (x : ByteArray)
  (h63 : n + x.size ≤ maxLen) (hbytes : n + x.size ≤ 140737488355328) (hb : base ≤ w.heap.size) {k : Sl → G}
  (h : ∀ (s' : Sl) w', w'.ownsRow base e 1 (.slice s'.a s'.n s'.c) (n + x.size) (xs ++ Go.Lib.strCells x) → Fr (fun k => base ≤ k) w w' → k s' R w') :
  opG P (Builtin.append_ #[t, u] ty #[.slice s.a s.n s.c, .string x]) (.one .slice) k R w := by
 obtain ⟨v', w', hr, h2, h3, _⟩ := Go.Lib.run_append_own_string (P := P) w base t u ty e i ht hu hi hz hsize hby _ n xs hown x h63 hbytes hb
 obtain ⟨s', rfl, _, _⟩ := slice_of_own h2
 exact ⟨(s', ()), w', hr, h s' w' h2 (fr_own hown h3)⟩
theorem own_fr {S : Nat → Prop} {w w' : World} {base : Nat} {e : TypeId} {sz : Nat} {v : Value} {n : Nat} {xs : List Value} (h : w.ownsRow base e sz v n xs) (f : Fr S w w') (hb : ∀ b, v.ownBlock = some b → ¬ S b) : w'.ownsRow base e sz v n xs := by
 refine ⟨h.1, ?_⟩
 rcases h.2 with h | ⟨g, cap, cur, rfl, h0, hg, r⟩
 ·exact .inl h
 ·refine .inr ⟨g, cap, cur, rfl, h0, ?_, r⟩
  rw [f.blk g (Array.getElem?_eq_some_iff.1 hg).1 (hb g rfl)]
  exact hg
theorem own_fr0 {w w' : World} {base : Nat} {e : TypeId} {sz : Nat} {v : Value} {n : Nat} {xs : List Value} (h : w.ownsRow base e sz v n xs) (f : Fr noB w w') : w'.ownsRow base e sz v n xs := own_fr h f fun _ _ h => h
theorem own_base {w : World} {base : Nat} {e : TypeId} {sz : Nat} {v : Value} {n : Nat} {xs : List Value} (h : w.ownsRow base e sz v n xs) : w.ownsRow 0 e sz v n xs := by
 refine ⟨h.1, ?_⟩
 rcases h.2 with h | ⟨g, cap, cur, rfl, h0, r⟩
 ·exact .inl h
 ·exact .inr ⟨g, cap, cur, rfl, Nat.zero_le _, r⟩
theorem Fr.behind {a b c : World} (h : Fr noB a b) (k : Fr (fun k => a.heap.size ≤ k) b c) : Fr noB a c := h.then k fun x hx h => (show False by omega)
end
end Go.Lift
end
section
namespace Go.Lift
section
variable {P : Program} {R : Ending → World → Prop} {w : World} {f : FuncId} {args : Array Value} {Y : World → Prop}
theorem callI_ok {n : Int} (hc : Calls P f args w fun e w' => e = .returned (.int .i64 n) ∧ Y w') {k : Int → G} (h : ∀ w', Y w' → k n R w') : callG P f args [.one (.int .i64)] k R w :=
 call_ok hc fun _ w' ⟨he, hy⟩ => ⟨((n, ()), ()), he, h w' hy⟩
theorem callB_ok {b : Bool} (hc : Calls P f args w fun e w' => e = .returned (.bool b) ∧ Y w') {k : Bool → G} (h : ∀ w', Y w' → k b R w') : callG P f args [.one .bool] k R w :=
 call_ok hc fun _ w' ⟨he, hy⟩ => ⟨((b, ()), ()), he, h w' hy⟩
theorem callS_ok {s : ByteArray} (hc : Calls P f args w fun e w' => e = .returned (.string s) ∧ Y w') {k : ByteArray → G} (h : ∀ w', Y w' → k s R w') : callG P f args [.one .str] k R w :=
 call_ok hc fun _ w' ⟨he, hy⟩ => ⟨((s, ()), ()), he, h w' hy⟩
theorem callU_ok (hc : Calls P f args w fun e w' => e = .returned (.tuple #[]) ∧ Y w') {k : G} (h : ∀ w', Y w' → k R w') : callG P f args [] k R w :=
 call_ok hc fun _ w' ⟨he, hy⟩ => ⟨(), he, h w' hy⟩
end
end Go.Lift
end
section
namespace Go.Lift
def bs (l : List UInt8) : ByteArray := ⟨l.toArray⟩
def bl (s : ByteArray) : List UInt8 := s.data.toList
theorem ba_ext {a b : ByteArray} (h : bl a = bl b) : a = b := by
 have : a.data = b.data := Array.toList_inj.1 h
 cases a; cases b; cases this; rfl
theorem bl_bs (l : List UInt8) : bl (bs l) = l := by simp [bl, bs]
theorem bs_bl (s : ByteArray) : bs (bl s) = s := ba_ext (bl_bs _)
theorem bs_size (l : List UInt8) : (bs l).size = l.length := by simp [bs, ByteArray.size]
theorem bl_length (s : ByteArray) : (bl s).length = s.size := Array.length_toList
theorem bl_extract (s : ByteArray) (a b : Nat) : bl (s.extract a b) = ((bl s).drop a).take (b - a) := by
 simp only [bl, ByteArray.data_extract, Array.toList_extract, List.extract_eq_take_drop]
theorem bl_append (a b : ByteArray) : bl (a ++ b) = bl a ++ bl b := by simp [bl, ByteArray.data_append]
theorem bs_append (a b : List UInt8) : bs a ++ bs b = bs (a ++ b) := ba_ext (by rw [bl_append, bl_bs, bl_bs, bl_bs])
theorem byteAt_bl (s : ByteArray) (i : Nat) : byteAt s (i : Int) = (((bl s).getD i 0).toNat : Int) := by simp [byteAt, bl]
theorem toList_loop : ∀ (n : Nat) (bs : ByteArray) (i : Nat) (r : List UInt8), bs.size - i = n → ByteArray.toList.loop bs i r = r.reverse ++ (bs.data.toList.drop i)
 | 0, bs, i, r, h => by
  rw [ByteArray.toList.loop, if_neg (by omega), List.drop_of_length_le (by have h2 : bs.data.toList.length = bs.size := Array.length_toList; omega), List.append_nil]
 | n + 1, bs, i, r, h => by
  have hi : i < bs.size := by omega
  have hi' : i < bs.data.toList.length := by have h2 : bs.data.toList.length = bs.size := Array.length_toList; omega
  rw [ByteArray.toList.loop, if_pos hi, toList_loop n bs (i + 1) _ (by omega), List.drop_eq_getElem_cons hi']
  have e : bs.get! i = bs.data.toList[i] := by
   cases bs
   simp only [ByteArray.get!]
   simp
   rw [getElem!_pos]
  rw [e]
  simp
theorem toList_bl (s : ByteArray) : ByteArray.toList s = bl s := by
 unfold ByteArray.toList
 rw [toList_loop _ s 0 [] rfl]
 rfl
theorem eq_bl (a b : ByteArray) : (ByteArray.toList a == ByteArray.toList b) = (bl a == bl b) := by rw [toList_bl, toList_bl]
theorem u8_lt (b : UInt8) : b.toNat < 256 := b.toNat_lt
theorem u8_eq {a b : UInt8} : (a.toNat : Int) = b.toNat ↔ a = b := ⟨fun h => UInt8.toNat_inj.1 (by omega), fun h => h ▸ rfl⟩
theorem count_ok {body : (Int → G) → Int → G} {R : Ending → World → Prop} {w : World} (n : Nat) (hn : n < 4611686018427387904) (I : Nat → World → Prop)
  (hbody : ∀ (rec : Int → G) (k : Nat) (w : World), k ≤ n → I k w → (k < n → ∀ w', I (k + 1) w' → rec (IntKind.wrap .i64 ((k : Int) + 1)) R w') → body rec (k : Int) R w)
  (h : I 0 w) : loopG [.one (.int .i64)] body (0 : Int) R w := by
 refine loop1_ok (c := .int .i64) (fun (i : Int) w' => ∃ k : Nat, i = (k : Int) ∧ k ≤ n ∧ I k w') (fun (i : Int) => n - i.toNat) ?_ ⟨0, rfl, Nat.zero_le _, h⟩
 rintro rec i w1 ⟨k, rfl, hk, hI⟩ hrec
 refine hbody rec k w1 hk hI fun hlt w' hI' => ?_
 have e : IntKind.wrap .i64 ((k : Int) + 1) = ((k + 1 : Nat) : Int) := by rw [wrap_ok (by omega) (by omega)]; omega
 rw [e]
 exact hrec _ _ ⟨k + 1, rfl, hlt, hI'⟩ (by simp only [Int.toNat_natCast]; omega)
end Go.Lift
end
section
namespace Go.Lex
abbrev B := List UInt8
def small (c : UInt8) : Bool := decide (97 ≤ c.toNat ∧ c.toNat ≤ 122)
def great (c : UInt8) : Bool := decide (65 ≤ c.toNat ∧ c.toNat ≤ 90)
def digit (c : UInt8) : Bool := decide (48 ≤ c.toNat ∧ c.toNat ≤ 57)
def rest (c : UInt8) : Bool := small c || great c || digit c || c == 95
def lump (c : UInt8) : Bool := small c || great c || digit c || c == 46 || c == 45
def words : List B := [[109, 111, 100, 117, 108, 101], [105, 109, 112, 111, 114, 116], [112, 105, 110], [114, 97, 110, 103, 101], [116, 121, 112, 101], [111, 112, 97, 113, 117, 101], [108, 101, 116], [105, 110], [101, 120, 112, 111, 114, 116], [102, 117, 110], [105, 102], [116, 104, 101, 110], [101, 108, 115, 101], [99, 97, 115, 101], [111, 102], [97, 115], [110, 101, 119], [114, 97, 119], [116, 114, 117, 101], [102, 97, 108, 115, 101]]
def signs : List B := [[40], [41], [123], [125], [91], [93], [60], [62], [60, 61], [62, 61], [61], [94], [42], [44], [58], [46], [47], [64], [124], [45, 62]]
def isWord (s : B) : Bool := words.contains s
def isSign (s : B) : Bool := signs.contains s
def named (first : UInt8 → Bool) (s : B) : Bool := match s with
 | [] => false
 | c :: _ => decide (s.length ≤ 24) && first c && s.all rest
def isName (s : B) : Bool := named small s && !isWord s
def isUpper (s : B) : Bool := named great s
def cont (c : UInt8) : Bool := decide (128 ≤ c.toNat ∧ c.toNat ≤ 191)
def between (lo hi : Nat) (c : UInt8) : Bool := decide (lo ≤ c.toNat ∧ c.toNat ≤ hi)
def utfLen : B → Nat
 | [] => 0
 | a :: r =>
  if a.toNat < 128 then 1
  else if a.toNat < 194 then 0
  else if a.toNat < 224 then match r with
   | b :: _ => if cont b then 2 else 0
   | _ => 0
  else if a.toNat < 240 then match r with
   | b :: c :: _ => if between (if a.toNat = 224 then 160 else 128) (if a.toNat = 237 then 159 else 191) b && cont c then 3 else 0
   | _ => 0
  else if a.toNat < 245 then match r with
   | b :: c :: d :: _ => if between (if a.toNat = 240 then 144 else 128) (if a.toNat = 244 then 143 else 191) b && cont c && cont d then 4 else 0
   | _ => 0
  else 0
def utfBadF : Nat → B → Option Nat
 | 0, _ => none
 | _ + 1, [] => none
 | f + 1, s => match utfLen s with
  | 0 => some 0
  | n + 1 => (utfBadF f (s.drop (n + 1))).map (· + (n + 1))
def utfBad (s : B) : Option Nat := utfBadF s.length s
def parts : B → List B
 | [] => [[]]
 | c :: r => if c = 46 then [] :: parts r else match parts r with
  | p :: ps => (c :: p) :: ps
  | [] => [[c]]
def digits (s : B) : Bool := !s.isEmpty && s.all digit
def alnum (c : UInt8) : Bool := digit c || small c || great c || c == 45
def preOk (s : B) : Bool := !s.isEmpty && s.all alnum && (!digits s || s == [48] || s.head? != some 48)
def numOk (s : B) : Bool := digits s && decide (s.length ≤ 6) && (decide (s.length ≤ 1) || s.head? != some 48)
def verOk (s : B) : Bool :=
 let core := s.takeWhile (· != 45)
 let tail := s.drop core.length
 decide ((parts core).length = 3) && (parts core).all numOk && match tail with
  | [] => true
  | _ :: pre => !pre.isEmpty && decide (pre.length ≤ 24) && (parts pre).all preOk
structure Tok where
 kind : Nat
 text : B
 at' : Nat
 deriving DecidableEq
structure Fault where
 err : Nat
 at' : Nat
 deriving DecidableEq
def esc (c : UInt8) : Option UInt8 := if c = 110 then some 10 else if c = 116 then some 9 else if c = 34 then some 34 else if c = 92 then some 92 else none
def quotedF : Nat → Nat → B → B → Except Fault (B × Nat)
 | 0, _, _, _ => .error ⟨60, 0⟩
 | _ + 1, _, [], _ => .error ⟨60, 0⟩
 | f + 1, i, c :: r, out =>
  if c = 34 then .ok (out, i + 1)
  else if c.toNat < 32 then .error ⟨60, 0⟩
  else if c = 92 then match r with
   | [] => .error ⟨60, 0⟩
   | e :: r' => match esc e with
    | some b => quotedF f (i + 2) r' (out ++ [b])
    | none => .error ⟨60, 0⟩
  else match utfLen (c :: r) with
   | 0 => .error ⟨30, i⟩
   | n + 1 => quotedF f (i + (n + 1)) ((c :: r).drop (n + 1)) (out ++ (c :: r).take (n + 1))
def number (t : B) : Bool := t.all digit && decide (t.length ≤ 15) && (t == [48] || t.head? != some 48)
def first (s : B) : Except Fault (Nat × B × Nat) := match s with
 | [] => .error ⟨60, 0⟩
 | c :: r =>
  if small c || great c then
   let t := s.takeWhile rest
   if isWord t then .ok (5, t, t.length) else if isName t then .ok (1, t, t.length) else if isUpper t then .ok (2, t, t.length) else .error ⟨60, 0⟩
  else if digit c then
   let t := s.takeWhile lump
   if number t then .ok (3, t, t.length) else if verOk t then .ok (7, t, t.length) else .error ⟨60, 0⟩
  else if c = 34 then match quotedF (r.length + 1) 1 r [] with
   | .ok (t, n) => .ok (4, t, n)
   | .error e => .error e
  else if 2 ≤ s.length ∧ isSign (s.take 2) then .ok (6, s.take 2, 2)
  else if isSign (s.take 1) then .ok (6, s.take 1, 1)
  else .error ⟨60, 0⟩
def blank (c : UInt8) : Bool := c == 32 || c == 10 || c == 9 || c == 13
def scanF : Nat → Nat → B → List Tok → Except Fault (List Tok)
 | 0, _, _, _ => .error ⟨0, 0⟩
 | _ + 1, at', [], acc => .ok (acc ++ [⟨0, [], at'⟩])
 | f + 1, at', c :: r, acc =>
  if blank c then scanF f (at' + 1) r acc
  else if c = 45 ∧ r.head? = some 45 then
   let t := (c :: r).takeWhile (· != 10)
   match utfBad t with
   | some k => .error ⟨30, at' + k⟩
   | none => scanF f (at' + t.length) ((c :: r).drop t.length) acc
  else match first (c :: r) with
   | .error e => .error ⟨e.err, at' + e.at'⟩
   | .ok (k, t, n) => scanF f (at' + n) ((c :: r).drop n) (acc ++ [⟨k, t, at'⟩])
def scan (s : B) : Except Fault (List Tok) := if s.length > 4096 then .error ⟨3, 4096⟩ else scanF (s.length + 1) 0 s []
def quoteB (c : UInt8) : B := if c = 10 then [92, 110] else if c = 9 then [92, 116] else if c = 34 then [92, 34] else if c = 92 then [92, 92] else [c]
def quote (s : B) : B := [34] ++ s.flatMap quoteB ++ [34]
def written (k : Int) (t : B) : B := if k = 4 then quote t else t
end Go.Lex
end
section
namespace Go.Proofs.YtngfnokbdcjoeaaGreatDoor
open Go.Lift
@[reducible] def wrZ (n : Int) : Int := IntKind.wrap .i64 n
@[reducible] def ivZ (n : Int) : Value := .int .i64 n
@[reducible] def tvZ (s : ByteArray) : Value := .string s
@[reducible] def svZ (l : Sl) : Value := .slice l.a l.n l.c
@[reducible] def shZ (n : Int) (s t : ByteArray) (l k : Sl) : Value := .agg #[.int .i64 n, .string s, .string t, .slice l.a l.n l.c, .slice k.a k.n k.c]
@[reducible] def kfZ (m : Nat) (n : Int) (s t : ByteArray) (l k : Sl) : Fact := (⟨m, 0, none⟩, [.int .i64 n, .string s, .string t, .slice l.a l.n l.c, .slice k.a k.n k.c])
@[reducible] def ldIZ (a : Addr) (K : Int → G) : G := ldG (.int .i64) a K
@[reducible] def ldSZ (a : Addr) (K : ByteArray → G) : G := ldG .str a K
@[reducible] def ldLZ (a : Addr) (K : Sl → G) : G := ldG .slice a K
@[reducible] def ldPZ (a : Addr) (K : Option Addr → G) : G := ldG .ptr a K
@[reducible] def ld5mZ (m : Nat) (K : Int → ByteArray → ByteArray → Sl → Sl → G) : G := ldG (.int .i64) ⟨m, 0, none⟩ fun (n : Int) => ldG .str ⟨m, 1, none⟩ fun (s : ByteArray) => ldG .str ⟨m, 2, none⟩ fun (t : ByteArray) => ldG .slice ⟨m, 3, none⟩ fun (l : Sl) => ldG .slice ⟨m, 4, none⟩ fun (k : Sl) => K n s t l k
@[reducible] def ld6mZ (m : Nat) (K : Int → Int → ByteArray → ByteArray → Sl → Sl → G) : G := ldG (.int .i64) ⟨m, 0, none⟩ fun (n : Int) => ldG (.int .i64) ⟨m, 1, none⟩ fun (z : Int) => ldG .str ⟨m, 2, none⟩ fun (s : ByteArray) => ldG .str ⟨m, 3, none⟩ fun (t : ByteArray) => ldG .slice ⟨m, 4, none⟩ fun (l : Sl) => ldG .slice ⟨m, 5, none⟩ fun (k : Sl) => K n z s t l k
@[reducible] def ld6xZ (a : Addr) (K : Int → Int → ByteArray → ByteArray → Sl → Sl → G) : G := ldG (.int .i64) (a.add 0) fun (n : Int) => ldG (.int .i64) (a.add 1) fun (z : Int) => ldG .str (a.add 2) fun (s : ByteArray) => ldG .str (a.add 3) fun (t : ByteArray) => ldG .slice (a.add 4) fun (l : Sl) => ldG .slice (a.add 5) fun (k : Sl) => K n z s t l k
@[reducible] def vaZ (n z : Int) (s t : ByteArray) (l k : Sl) : Value := .agg #[.int .i64 n, .int .i64 z, .string s, .string t, .slice l.a l.n l.c, .slice k.a k.n k.c]
@[reducible] def kf6Z (m : Nat) (n z : Int) (s t : ByteArray) (l k : Sl) : Fact := (⟨m, 0, none⟩, [.int .i64 n, .int .i64 z, .string s, .string t, .slice l.a l.n l.c, .slice k.a k.n k.c])
@[reducible] def st6Z (m : Nat) (n z : Int) (s t : ByteArray) (l k : Sl) (g : G) : G := stG ⟨m, 0, none⟩ (.int .i64 n) (stG ⟨m, 1, none⟩ (.int .i64 z) (stG ⟨m, 2, none⟩ (.string s) (stG ⟨m, 3, none⟩ (.string t) (stG ⟨m, 4, none⟩ (.slice l.a l.n l.c) (stG ⟨m, 5, none⟩ (.slice k.a k.n k.c) g)))))
@[reducible] def nw6Z (n z : Int) (s u : ByteArray) (l k : Sl) (t : TypeId) (K : Nat → G) : G := newG (.cells #[.int .i64 n, .int .i64 z, .string s, .string u, .slice l.a l.n l.c, .slice k.a k.n k.c] t (0, 0)) K
@[reducible] def nz6Z (t : TypeId) (K : Nat → G) : G := newG (.cells #[.int .i64 0, .int .i64 0, .string ⟨#[]⟩, .string ⟨#[]⟩, .slice none 0 0, .slice none 0 0] t (0, 0)) K
@[reducible] def ca6Z (f : FuncId) (a : Array Value) (K : Int → Int → ByteArray → ByteArray → Sl → Sl → G) : G := callG Tryz.prog f a [.agg [.int .i64, .int .i64, .str, .str, .slice, .slice]] K
@[reducible] def ld5xZ (a : Addr) (K : Int → ByteArray → ByteArray → Sl → Sl → G) : G := ldG (.int .i64) (a.add 0) fun (n : Int) => ldG .str (a.add 1) fun (s : ByteArray) => ldG .str (a.add 2) fun (t : ByteArray) => ldG .slice (a.add 3) fun (l : Sl) => ldG .slice (a.add 4) fun (k : Sl) => K n s t l k
@[reducible] def st5Z (m : Nat) (n : Int) (s t : ByteArray) (l k : Sl) (g : G) : G := stG ⟨m, 0, none⟩ (.int .i64 n) (stG ⟨m, 1, none⟩ (.string s) (stG ⟨m, 2, none⟩ (.string t) (stG ⟨m, 3, none⟩ (.slice l.a l.n l.c) (stG ⟨m, 4, none⟩ (.slice k.a k.n k.c) g))))
@[reducible] def nwZ (cs : Array Value) (t : TypeId) (K : Nat → G) : G := newG (.cells cs t (0, 0)) K
@[reducible] def nw5Z (n : Int) (s u : ByteArray) (l k : Sl) (t : TypeId) (K : Nat → G) : G := newG (.cells #[.int .i64 n, .string s, .string u, .slice l.a l.n l.c, .slice k.a k.n k.c] t (0, 0)) K
@[reducible] def nz5Z (t : TypeId) (K : Nat → G) : G := newG (.cells #[.int .i64 0, .string ⟨#[]⟩, .string ⟨#[]⟩, .slice none 0 0, .slice none 0 0] t (0, 0)) K
@[reducible] def ca0Z (f : FuncId) (a : Array Value) (K : G) : G := callG Tryz.prog f a [] K
@[reducible] def caBZ (f : FuncId) (a : Array Value) (K : Bool → G) : G := callG Tryz.prog f a [.one .bool] K
@[reducible] def caIZ (f : FuncId) (a : Array Value) (K : Int → G) : G := callG Tryz.prog f a [.one (.int .i64)] K
@[reducible] def caSZ (f : FuncId) (a : Array Value) (K : ByteArray → G) : G := callG Tryz.prog f a [.one .str] K
@[reducible] def caLZ (f : FuncId) (a : Array Value) (K : Sl → G) : G := callG Tryz.prog f a [.one .slice] K
@[reducible] def ca5Z (f : FuncId) (a : Array Value) (K : Int → ByteArray → ByteArray → Sl → Sl → G) : G := callG Tryz.prog f a [.agg [.int .i64, .str, .str, .slice, .slice]] K
@[reducible] def caZ (f : FuncId) (a : Array Value) (vs : List VT) (K : CurV G vs) : G := callG Tryz.prog f a vs K
@[reducible] def jn0Z (X : G → G) (K : G) : G := joinG [] X K
@[reducible] def jnBZ (X : (Bool → G) → G) (K : Bool → G) : G := joinG [.one .bool] X K
@[reducible] def jnIZ (X : (Int → G) → G) (K : Int → G) : G := joinG [.one (.int .i64)] X K
@[reducible] def jnLZ (X : (Sl → G) → G) (K : Sl → G) : G := joinG [.one .slice] X K
@[reducible] def lpIZ (B : (Int → G) → Int → G) (x : Int) : G := loopG [.one (.int .i64)] B x
@[reducible] def lpIIZ (B : (Int → Int → G) → Int → Int → G) (x y : Int) : G := loopG [.one (.int .i64), .one (.int .i64)] B x y
@[reducible] def lpLIZ (B : (Sl → Int → G) → Sl → Int → G) (x : Sl) (y : Int) : G := loopG [.one .slice, .one (.int .i64)] B x y
@[reducible] def ixZ (l : Sl) (i : Int) (n : Nat) (K : Addr → G) : G := idxG l.a l.n i n K
end Go.Proofs.YtngfnokbdcjoeaaGreatDoor
end
section
namespace Go.Proofs.YtngfnokbdcjoeaaGreatDoor
theorem mixed : Tryz.prog.follows .mixedOrders = true := by kernel_rfl
end Go.Proofs.YtngfnokbdcjoeaaGreatDoor
end
