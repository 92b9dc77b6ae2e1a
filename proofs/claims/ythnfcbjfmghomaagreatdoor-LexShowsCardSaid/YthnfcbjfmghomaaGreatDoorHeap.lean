/- Laws for proofs about lifted trees: blocks of memory, what steps do to them. No condition. -/
import Derived.Test.YthnfcbjfmghomaaGreatDoorSound
namespace Go.Lift

/-- Block b is a row of cells that reads l, all of it writable. -/
def Blk (w : World) (b : Nat) (t : TypeId) (l : List Value) : Prop := w.heap[b]? = some (.cells l.toArray t (0, 0))

theorem Blk.lt {w : World} {b : Nat} {t : TypeId} {l : List Value} (h : Blk w b t l) : b < w.heap.size := (Array.getElem?_eq_some_iff.1 h).1
theorem Blk.cell {w : World} {b : Nat} {t : TypeId} {l : List Value} (h : Blk w b t l) {o : Nat} {v : Value} (hv : l[o]? = some v) : w.cell? ⟨b, o, none⟩ = some v := by
  unfold Blk at h
  simp [World.cell?, h, hv]
theorem Blk.frozen {w : World} {b : Nat} {t : TypeId} {l : List Value} (h : Blk w b t l) (o : Nat) : w.frozen? ⟨b, o, none⟩ = false := by
  unfold Blk at h
  simp [World.frozen?, h]
theorem Blk.uniq {w : World} {b : Nat} {t t' : TypeId} {l l' : List Value} (h : Blk w b t l) (h' : Blk w b t' l') : l = l' := by
  unfold Blk at h h'
  rw [h] at h'
  cases h'
  rfl
theorem Blk.held {w : World} {b : Nat} {t : TypeId} {l : List Value} (h : Blk w b t l) {o : Nat} {vs : List Value} (hv : ∀ j v, vs[j]? = some v → l[o + j]? = some v) : Held w (⟨b, o, none⟩, vs) := by
  intro j v hj
  show w.cell? (Addr.add ⟨b, o, none⟩ j) = some v
  rw [Addr.add_lit]
  exact h.cell (hv j v hj)

/-- But for the blocks of S nothing that was there has changed. -/
structure Fr (S : Nat → Prop) (w w' : World) : Prop where
  os : w'.os = w.os
  output : w'.output = w.output
  size : w.heap.size ≤ w'.heap.size
  blk : ∀ k, k < w.heap.size → ¬ S k → w'.heap[k]? = w.heap[k]?
def noB : Nat → Prop := fun _ => False
def oneB (b : Nat) : Nat → Prop := fun k => k = b

theorem Fr.refl (S : Nat → Prop) (w : World) : Fr S w w := ⟨rfl, rfl, Nat.le_refl _, fun _ _ _ => rfl⟩
theorem Fr.trans {S T : Nat → Prop} {a b c : World} (h : Fr S a b) (k : Fr T b c) : Fr (fun x => S x ∨ (T x ∧ x < a.heap.size)) a c :=
  ⟨k.os.trans h.os, k.output.trans h.output, Nat.le_trans h.size k.size, fun i hi hn =>
    (k.blk i (Nat.lt_of_lt_of_le hi h.size) (fun ht => hn (.inr ⟨ht, hi⟩))).trans (h.blk i hi (fun hs => hn (.inl hs)))⟩
theorem Fr.mono {S T : Nat → Prop} {a b : World} (h : Fr S a b) (hs : ∀ x, x < a.heap.size → S x → T x) : Fr T a b :=
  ⟨h.os, h.output, h.size, fun i hi hn => h.blk i hi (fun hx => hn (hs i hi hx))⟩
/-- two steps, with the blocks that the second one writes old ones of S, or new -/
theorem Fr.then {S T : Nat → Prop} {a b c : World} (h : Fr S a b) (k : Fr T b c) (hs : ∀ x, x < a.heap.size → T x → S x) : Fr S a c :=
  (h.trans k).mono fun x hx hor => hor.elim id fun ht => hs x hx ht.1
theorem Blk.fr {S : Nat → Prop} {w w' : World} {b : Nat} {t : TypeId} {l : List Value} (h : Blk w b t l) (f : Fr S w w') (hb : ¬ S b) : Blk w' b t l := by
  have hl := h.lt
  unfold Blk at *
  rw [f.blk b hl hb, h]
theorem Fr.cell {S : Nat → Prop} {w w' : World} (f : Fr S w w') {a : Addr} {v : Value} (h : w.cell? a = some v) (hb : ¬ S a.block) : w'.cell? a = some v := by
  rw [World.cell?_of_block (f.blk a.block (World.block_lt_of_cell? w a h) hb)]
  exact h
theorem Fr.held {S : Nat → Prop} {w w' : World} (f : Fr S w w') {x : Fact} (h : Held w x) (hb : ¬ S x.1.block) : Held w' x := fun j v hj =>
  f.cell (h j v hj) (by
    have e : (x.1.add j).block = x.1.block := by unfold Addr.add; split <;> rfl
    rw [e]; exact hb)
theorem Fr.of_grown {w w' : World} {row : Option Nat} (h : w.grownBy w' row) : Fr (fun k => row = some k) w w' :=
  ⟨h.os, h.output, h.size, fun k hk hn => h.block k hk (fun e => hn e.symm)⟩
theorem fr_drew (w : World) : Fr noB w w.drew := ⟨rfl, rfl, Nat.le_refl _, fun _ _ _ => rfl⟩
theorem fr_alloc (w : World) (o : Obj) : Fr noB w (w.alloc o) := ⟨rfl, rfl, by simp, fun k hk _ => RowKit.Below.heap_alloc w o k hk⟩
theorem fr_setCell (w : World) (a : Addr) (v : Value) : Fr (oneB a.block) w (w.setCell a v) :=
  ⟨rfl, rfl, by simp, fun k _ hn => heap_setCell_other w a k v hn⟩
theorem fr_setRow (w : World) (g : Nat) (cs : Array Value) : Fr (oneB g) w (w.setRow g cs) :=
  ⟨rfl, rfl, by simp, fun k _ hn => setRow_other w g k cs hn⟩
theorem blk_alloc (w : World) (cs : Array Value) (t : TypeId) : Blk (w.alloc (.cells cs t (0, 0))) w.heap.size t cs.toList := by
  unfold Blk
  rw [heap_alloc_new]
theorem Blk.set {w : World} {b : Nat} {t : TypeId} {l : List Value} (h : Blk w b t l) (o : Nat) (v : Value) : Blk (w.setCell ⟨b, o, none⟩ v) b t (l.set o v) := by
  unfold Blk at *
  rw [heap_setCell_same w b o l.toArray t v h]
  simp
theorem Blk.row {w : World} {b : Nat} {t : TypeId} {l : List Value} (h : Blk w b t l) (cs : List Value) : Blk (w.setRow b cs.toArray) b t cs :=
  setRow_heap w b _ _ t _ h

/-! ### Steps -/
section
variable {R : Ending → World → Prop} {w : World}
theorem nn_ok {a : Addr} {k : Addr → G} (h : k a R w) : nnG (some a) k R w := h
theorem ite_ok {b : Bool} {x y : G} (h1 : b = true → x R w) (h2 : b = false → y R w) : iteG b x y R w := by
  cases b
  · exact h2 rfl
  · exact h1 rfl
theorem ite_yes {b : Bool} {x y : G} (hb : b = true) (h : x R w) : iteG b x y R w := by
  subst hb
  exact h
theorem ite_no {b : Bool} {x y : G} (hb : b = false) (h : y R w) : iteG b x y R w := by
  subst hb
  exact h
theorem ld_ok {c : CT} {a : Addr} {k : c.T → G} {x : c.T} (hc : w.cell? a = some (c.val x)) (h : k x R w) : ldG c a k R w := ⟨x, hc, h⟩
theorem Blk.ld {b : Nat} {t : TypeId} {l : List Value} (B : Blk w b t l) {o : Nat} {c : CT} {k : c.T → G} {x : c.T} (hv : l[o]? = some (c.val x)) (h : k x R w) : ldG c ⟨b, o, none⟩ k R w :=
  ⟨x, B.cell hv, h⟩
theorem Blk.ldS {b : Nat} {t : TypeId} {l : List Value} (B : Blk w b t l) {o : Nat} {k : Sl → G} {a : Option Addr} {n c : Nat} (hv : l[o]? = some (.slice a n c)) (h : k ⟨a, n, c⟩ R w) : ldG .slice ⟨b, o, none⟩ k R w :=
  ⟨⟨a, n, c⟩, B.cell hv, h⟩
theorem Blk.ldRow {b : Nat} {t : TypeId} {l : List Value} (B : Blk w b t l) {o n : Nat} {k : Array Value → G} {cs : List Value} (hn : cs.length = n) (hv : ∀ j v, cs[j]? = some v → l[o + j]? = some v) (h : k cs.toArray R w) :
    ldRowG n ⟨b, o, none⟩ k R w := ⟨cs.toArray, by simpa using hn, by simpa using B.held hv, h⟩
theorem Blk.st {b : Nat} {t : TypeId} {l : List Value} (B : Blk w b t l) {o : Nat} {v : Value} {k : G} (hv : v.oneCell' = true) (ho : o < l.length)
    (h : ∀ w', Blk w' b t (l.set o v) → Fr (oneB b) w w' → k R w') : stG ⟨b, o, none⟩ v k R w :=
  ⟨hv, ⟨_, B.cell (List.getElem?_eq_getElem ho)⟩, B.frozen o, h _ (B.set o v) (fr_setCell w ⟨b, o, none⟩ v)⟩
theorem new_ok {cs : Array Value} {t : TypeId} {k : Nat → G} (h : ∀ w' b, b = w.heap.size → w'.heap.size = w.heap.size + 1 → Blk w' b t cs.toList → Fr noB w w' → k b R w') : newG (.cells cs t (0, 0)) k R w :=
  h _ _ rfl (by simp) (blk_alloc w cs t) (fr_alloc w _)
theorem drew_ok {k : G} (h : ∀ w', Fr noB w w' → w'.heap.size = w.heap.size → k R w') : drewG k R w := h _ (fr_drew w) rfl
theorem assume_ok {k : G} {b : Bool} (hb : b = true) (h : k R w) : assumeG b k R w := by
  subst hb
  exact h
theorem idx_ok {a : Addr} {n : Nat} {i : Int} {sz : Nat} {k : Addr → G} (h0 : 0 ≤ i) (h1 : i < n) (h : k (a.add (i.toNat * sz)) R w) : idxG (some a) n i sz k R w := ⟨a, rfl, h0, h1, h⟩
theorem idxB_ok {b o n : Nat} {i : Nat} {sz : Nat} {k : Addr → G} (h1 : i < n) (h : k ⟨b, o + i * sz, none⟩ R w) : idxG (some ⟨b, o, none⟩) n (i : Int) sz k R w :=
  ⟨_, rfl, by omega, by omega, by rw [Int.toNat_natCast, Addr.add_lit]; exact h⟩
theorem call_ok {P : Program} {f : FuncId} {args : Array Value} {vs : List VT} {k : CurV G vs} {Φ : Ending → World → Prop} (hc : Calls P f args w Φ)
    (h : ∀ e w', Φ e w' → ∃ xs, e = .returned (packV vs xs) ∧ uncV k xs R w') : callG P f args vs k R w := hc.mono h
theorem keep_nil {k : G} (h : k R w) : keepG [] k R w := ⟨fun _ h => (by simp at h), h⟩
theorem keep_cons {f : Fact} {fs : List Fact} {k : G} (hf : Held w f) (h : keepG fs k R w) : keepG (f :: fs) k R w :=
  ⟨fun g hg => (List.mem_cons.1 hg).elim (fun e => e ▸ hf) (h.1 g), h.2⟩
theorem held_one {a : Addr} {v : Value} (h : w.cell? a = some v) : Held w (a, [v]) := fun j u hj => by
  cases j with
  | zero =>
    simp only [List.getElem?_cons_zero, Option.some.injEq] at hj
    subst hj
    show w.cell? (a.add 0) = some v
    rw [Addr.add_zero']
    exact h
  | succ j => simp at hj
theorem Blk.held1 {b : Nat} {t : TypeId} {l : List Value} (B : Blk w b t l) {o : Nat} {v : Value} (hv : l[o]? = some v) : Held w (⟨b, o, none⟩, [v]) := held_one (B.cell hv)
theorem cat_ok {a b : ByteArray} {k : ByteArray → G} (hs : a.size + b.size ≤ 9223372036854775807) (h : k (a ++ b) R w) : catG a b k R w := ⟨hs, h⟩
theorem sub_ok {s : ByteArray} {l h' : Int} {k : ByteArray → G} (h0 : 0 ≤ l) (h1 : l ≤ h') (h2 : h' ≤ s.size) (h : k (s.extract l.toNat h'.toNat) R w) : subG s l h' k R w := ⟨h0, h1, h2, h⟩
theorem reslice_ok {p : Option Addr} {c : Nat} {l h' m : Int} {sz : Nat} {k : Option Addr → Nat → Nat → G} (h0 : 0 ≤ l) (h1 : l ≤ h') (h2 : h' ≤ m) (h3 : m ≤ c)
    (h : k (if m.toNat = l.toNat then p else p.map (·.add (l.toNat * sz))) (h'.toNat - l.toNat) (m.toNat - l.toNat) R w) : resliceG p c l h' m sz k R w := ⟨h0, h1, h2, h3, h⟩
theorem both_ok {x y : G} (h1 : x R w) (h2 : y R w) : bothG x y R w := ⟨h1, h2⟩

theorem join_in {vs : List VT} {x : CurV G vs → G} {k : CurV G vs} (h : x k R w) : joinG vs x k R w := h
/-- ways meet: what holds there -/
theorem join1_ok {c : CT} {x : (c.T → G) → G} {k : c.T → G} (M : c.T → World → Prop) (hx : ∀ kj : c.T → G, (∀ y w', M y w' → kj y R w') → x kj R w) (hk : ∀ y w', M y w' → k y R w') : joinG [.one c] x k R w := hx k hk
theorem join0_ok {x : G → G} {k : G} (M : World → Prop) (hx : ∀ kj : G, (∀ w', M w' → kj R w') → x kj R w) (hk : ∀ w', M w' → k R w') : joinG [] x k R w := hx k hk
theorem reV {vs : List VT} {f : HV vs → G} {xs : HV vs} (h : f xs R w) : uncV (curV f) xs R w := by rw [uncV_curV]; exact h
/-- A loop with one variable, by an invariant and a measure. -/
theorem loop_ok {vs : List VT} {body : CurV G vs → CurV G vs} (I : HV vs → World → Prop) (μ : HV vs → Nat)
    (hbody : ∀ (rec : CurV G vs) (xs : HV vs) (w : World), I xs w → (∀ ys w', I ys w' → μ ys < μ xs → uncV rec ys R w') → uncV (body rec) xs R w)
    {xs : HV vs} (h : I xs w) : uncV (loopG vs body) xs R w := by
  refine reV ?_
  have key : ∀ n xs w, I xs w → μ xs < n → uncV (iterG vs body n) xs R w := by
    intro n
    induction n with
    | zero => intro xs w _ hn; omega
    | succ n ih =>
      intro xs w hI hn
      exact hbody _ xs w hI fun ys w' hy hlt => ih ys w' hy (by omega)
  exact ⟨μ xs + 1, key _ xs w h (Nat.lt_succ_self _)⟩
/-- one variable -/
theorem loop1_ok {c : CT} {body : (c.T → G) → c.T → G} (I : c.T → World → Prop) (μ : c.T → Nat)
    (hbody : ∀ (rec : c.T → G) (x : c.T) (w : World), I x w → (∀ y w', I y w' → μ y < μ x → rec y R w') → body rec x R w)
    {x : c.T} (h : I x w) : loopG [.one c] body x R w :=
  loop_ok (vs := [.one c]) (body := body) (fun xs w => I xs.1.1 w) (fun xs => μ xs.1.1) (fun rec xs w hI hr => hbody rec xs.1.1 w hI fun y w' hy hl => hr ((y, ()), ()) w' hy hl) (xs := ((x, ()), ())) h
end

/-! ### Rows of cells -/
section
variable {P : Program} {R : Ending → World → Prop} {w : World}
theorem copy_ok {b o dn dc sn sc : Nat} {sa : Addr} {dT sT ty elem : TypeId} (hu : P.underlying dT = some (.slice elem)) (hs : (P.info? elem).map (·.size) = some 1)
    {t : TypeId} {l cs : List Value} (B : Blk w b t l) (hn : cs.length = min sn dn) (hsrc : Held w (sa, cs)) (hfit : o + cs.length ≤ l.length) (h1 : ∀ v ∈ cs, v.oneCell' = true)
    {k : Int → G} (h : ∀ w', Blk w' b t (l.take o ++ (cs ++ l.drop (o + cs.length))) → Fr (oneB b) w w' → w'.heap.size = w.heap.size → k cs.length R w') :
    opG P (Builtin.copy_ #[dT, sT] ty #[.slice (some ⟨b, o, none⟩) dn dc, .slice (some sa) sn sc]) (.one (.int .i64)) k R w := by
  have hr := run_copy_row (P := P) w dT sT ty elem b o dn dc sa sn sc l.toArray t cs hu hs B hn hsrc (by simpa using hfit) h1
  refine ⟨((cs.length : Int), ()), _, hr, h _ ?_ (fr_setRow w b _) (by simp)⟩
  rw [← List.append_assoc]
  exact B.row _
theorem stRow_ok {b o : Nat} {t T : TypeId} {cs : Array Value} {l : List Value} (hi : ∃ i, P.info? t = some i ∧ i.size = cs.size) (B : Blk w b T l) (hfit : o + cs.size ≤ l.length) (h1 : ∀ v ∈ cs.toList, v.oneCell' = true)
    {k : G} (h : ∀ w', Blk w' b T (l.take o ++ (cs.toList ++ l.drop (o + cs.size))) → Fr (oneB b) w w' → w'.heap.size = w.heap.size → k R w') :
    opUG P (storeVar t ⟨b, o, none⟩ (.agg cs)) k R w := by
  obtain ⟨i, hi, hs⟩ := hi
  have hr := run_storeCells_at P b o T cs.toList 0 l.toArray w B (by simpa using hfit) h1
  refine ⟨_, by rw [run_storeVar_agg hi _ _ (by simp only [Value.cells]; exact hs.symm)]; exact hr, h _ ?_ (fr_setRow w b _) (by simp)⟩
  rw [← List.append_assoc]
  have := B.row (l.take o ++ cs.toList ++ l.drop (o + cs.size))
  simpa using this
end

/-! ### append, make, bytes and texts -/
section
variable {P : Program} {R : Ending → World → Prop} {w : World}
theorem append_ok {t ty e : TypeId} {i : TypeInfo} {z : Value} {size bytes : Nat} (ht : P.underlying t = some (.slice e)) (hi : P.info? e = some i) (hz : i.zero = some z)
    (hsize : i.size = size) (hby : i.bytes = bytes) (hzs : z.cells.size = size) (hsz : 0 < size) {s : Sl} {n : Nat} {xs : List Value} (hown : w.ownsRow 0 e size (.slice s.a s.n s.c) n xs)
    {ad : Addr} {m c : Nat} {news : List Value} (hl : news.length = m * size) (hnews : Held w (ad, news)) (h1 : ∀ u ∈ news, u.oneCell' = true)
    (h63 : n + m ≤ maxLen) (hbytes : (n + m) * bytes ≤ 140737488355328) {k : Sl → G}
    (h : ∀ (s' : Sl) w', w'.ownsRow 0 e size (.slice s'.a s'.n s'.c) (n + m) (xs ++ news) → Fr (fun k => ∃ a, s.a = some a ∧ a.block = k) w w' → (∀ a, s'.a = some a → s.a = some a ∨ (w.heap.size ≤ a.block ∧ a.block < w'.heap.size)) → k s' R w') :
    opG P (Builtin.append_ #[t, t] ty #[.slice s.a s.n s.c, .slice (some ad) m c]) (.one .slice) k R w := by
  obtain ⟨v', w', hr, h2, h3, h4⟩ := run_append_own (P := P) w 0 t ty e i z size bytes ht hi hz hsize hby hzs hsz _ n xs hown ad m c news hl hnews h1 h63 hbytes (Nat.zero_le _)
  have hv : ∃ s' : Sl, v' = .slice s'.a s'.n s'.c := by
    rcases h2.2 with ⟨rfl, _⟩ | ⟨g, cap, cur, rfl, _⟩
    · exact ⟨⟨none, 0, 0⟩, rfl⟩
    · exact ⟨⟨some ⟨g, 0, none⟩, _, cap⟩, rfl⟩
  obtain ⟨s', rfl⟩ := hv
  refine ⟨(s', ()), w', hr, h s' w' h2 ((Fr.of_grown h3).mono fun x _ hx => ?_) ?_⟩
  · simp only [Value.ownBlock] at hx
    cases ha : s.a with
    | none => simp [ha] at hx
    | some a => simp [ha] at hx; exact ⟨a, rfl, hx⟩
  · intro a ha
    have hlt : a.block < w'.heap.size := by
      rcases h2.2 with ⟨hv, _⟩ | ⟨g, cap, cur, hv, _, hg, _⟩
      · simp only [Value.slice.injEq] at hv; rw [hv.1] at ha; cases ha
      · simp only [Value.slice.injEq] at hv
        rw [hv.1] at ha
        cases ha
        exact (Array.getElem?_eq_some_iff.1 hg).1
    have hn63 : ((n + m : Nat) : Int) ≤ 9223372036854775807 := by unfold maxLen at h63; omega
    have new : ∀ (n' c' : Nat) (W : World), (Builtin.append_ #[t, t] ty #[.slice s.a s.n s.c, .slice (some ad) m c]).run P w = .ok (.slice (some ⟨w.heap.size, 0, none⟩) n' c') W → s.a = some a ∨ (w.heap.size ≤ a.block ∧ a.block < w'.heap.size) := by
      intro n' c' W hW
      rw [hr] at hW
      simp only [Result.ok.injEq, Value.slice.injEq] at hW
      rw [hW.1.1] at ha
      cases ha
      exact .inr ⟨Nat.le_refl _, hlt⟩
    rcases hown.2 with ⟨hv, hn0⟩ | ⟨g, cap, cur, hv, _, hg, hnc, _, hsz', htake⟩
    · simp only [Value.slice.injEq] at hv
      obtain ⟨e1, e2, e3⟩ := hv
      subst hn0
      by_cases hm : m = 0
      · have hx : news = [] := List.eq_nil_of_length_eq_zero (by rw [hl, hm, Nat.zero_mul])
        have := (h4.2 ⟨by rw [e1, e2, e3], hm⟩)
        simp only [Value.slice.injEq] at this
        rw [this.1] at ha
        cases ha
      · have := run_append_nil (P := P) w t ty e i z ht hi hz ad m c news (by rw [hl, hsize]) hnews (by omega) (by omega) (by rw [hby]; have := hbytes; simp only [Nat.zero_add] at this; omega)
        rw [show (Value.slice none 0 0) = Value.slice s.a s.n s.c by rw [e1, e2, e3]] at this
        exact new _ _ _ this
    · simp only [Value.slice.injEq] at hv
      obtain ⟨e1, e2, e3⟩ := hv
      by_cases hroom : n + m ≤ cap
      · have hfit : n * i.size + news.length ≤ cur.size := by rw [hl, hsz', hsize, ← Nat.add_mul]; exact Nat.mul_le_mul_right _ hroom
        have := run_append_room (P := P) w t ty e i ht hi g n cap cur hg ad m c news (by rw [hl, hsize]) hnews h1 hroom hfit
        rw [e1, e2, e3] at hr
        rw [this] at hr
        simp only [Result.ok.injEq, Value.slice.injEq] at hr
        rw [← hr.1.1] at ha
        rw [e1]
        exact .inl ha
      · have holds : ∀ j u, xs[j]? = some u → w.cell? ((⟨g, 0, none⟩ : Addr).add j) = some u := hown.cells (g := g) (by rw [e1]; rfl)
        have := run_append_grow (P := P) w t ty e i z ht hi hz ⟨g, 0, none⟩ n cap xs (by rw [hown.1, hsize]) holds ad m c news (by rw [hl, hsize]) hnews (by omega) hn63 (growslice_fits (by omega) (by rw [hby]; exact hbytes))
        rw [show (Value.slice (some ⟨g, 0, none⟩) n cap) = Value.slice s.a s.n s.c by rw [e1, e2, e3]] at this
        exact new _ _ _ this
/-- the bytes of a text, as cells -/
def byteCells (l : List UInt8) : List Value := l.map fun b => .int .u8 (b.toNat : Int)
theorem copyS_ok {b o dn dc : Nat} {dT sT ty elem : TypeId} (hu : P.underlying dT = some (.slice elem)) (hs : (P.info? elem).map (·.size) = some 1)
    {t : TypeId} {l : List Value} (B : Blk w b t l) {s : ByteArray} (hn : s.size ≤ dn) (hfit : o + s.size ≤ l.length)
    {k : Int → G} (h : ∀ w', Blk w' b t (l.take o ++ (byteCells s.data.toList ++ l.drop (o + s.size))) → Fr (oneB b) w w' → w'.heap.size = w.heap.size → k s.size R w') :
    opG P (Builtin.copy_ #[dT, sT] ty #[.slice (some ⟨b, o, none⟩) dn dc, .string s]) (.one (.int .i64)) k R w := by
  have hlen : (byteCells s.data.toList).length = s.size := by simp [byteCells]
  have hst := run_storeCells_at P b o t (byteCells s.data.toList) 0 l.toArray w B (by rw [hlen]; simpa using hfit) (fun v hv => by obtain ⟨x, _, rfl⟩ := List.mem_map.1 hv; rfl)
  have hmin : Nat.min s.size dn = s.size := Nat.min_eq_left hn
  refine ⟨((s.size : Int), ()), w.setRow b (l.take o ++ byteCells s.data.toList ++ l.drop (o + s.size)).toArray, ?_, h _ ?_ (fr_setRow w b _) (by simp)⟩
  · cases hq : P.info? elem with
    | none => simp [hq] at hs
    | some i =>
      have hi : i.size = 1 := by simpa [hq] using hs
      simp only [Nat.add_zero, hlen] at hst
      simp only [Builtin.copy_, List.getElem?_toArray, List.getElem?_cons_zero, List.getElem?_cons_succ, run_u hu, Result.andThen_ok, Sem.run_bind]
      have ht : List.take s.size (List.map (fun b => Value.int .u8 (b.toNat : Int)) s.data.toList) = byteCells s.data.toList := List.take_of_length_le (by simp)
      simp [ht, hst, Builtin.lenOf, Builtin.firstCells, hmin, run_size hq, hi, goInt, VT.val, CT.val]
  · rw [← List.append_assoc]
    exact B.row _
theorem make_ok {t e : TypeId} {i : TypeInfo} {z : Value} (ht : P.underlying t = some (.slice e)) (hi : P.info? e = some i) (hz : i.zero = some z)
    {l c : Int} (h0 : 0 ≤ l) (hlc : l ≤ c) (hb : (i.bytes : Int) * c ≤ 281474976710656) (h63 : c ≤ 9223372036854775807) {k : Sl → G}
    (h : ∀ w' b, b = w.heap.size → w'.heap.size = w.heap.size + 1 → Blk w' b e (madeCells z.cells (c.toNat * i.size)).toList → Fr noB w w' → k ⟨some ⟨b, 0, none⟩, l.toNat, c.toNat⟩ R w') :
    opG P (Instr.makeSlice t (.int .i64 l) (.int .i64 c)) (.one .slice) k R w :=
  ⟨(⟨some ⟨w.heap.size, 0, none⟩, l.toNat, c.toNat⟩, ()), _, run_make w t e i z ht hi hz .i64 .i64 l c h0 hlc hb h63, h _ _ rfl (by simp) (blk_alloc w _ e) (fr_alloc w _)⟩
end

/-! ### Numbers -/
theorem wrap_ok {n : Int} (h1 : -9223372036854775808 ≤ n) (h2 : n ≤ 9223372036854775807) : IntKind.wrap .i64 n = n := by
  rw [IntKind.wrap_i64]; omega

/-! ### Lists of rows of one length -/
theorem flat_at {α β : Type} (f : α → List β) (m : Nat) : ∀ {l : List α} (_ : ∀ x ∈ l, (f x).length = m) {k : Nat} {x : α} (_ : l[k]? = some x) (j : Nat) (_ : j < m), (l.flatMap f)[k * m + j]? = (f x)[j]?
  | y :: l, hf, 0, x, hk, j, hj => by
    simp only [List.getElem?_cons_zero, Option.some.injEq] at hk
    subst hk
    rw [List.flatMap_cons, Nat.zero_mul, Nat.zero_add, List.getElem?_append_left (by rw [hf y (by simp)]; exact hj)]
  | y :: l, hf, k + 1, x, hk, j, hj => by
    simp only [List.getElem?_cons_succ] at hk
    have hy := hf y (by simp)
    have e : (k + 1) * m + j = (f y).length + (k * m + j) := by rw [hy, Nat.succ_mul]; omega
    rw [List.flatMap_cons, e, List.getElem?_append_right (by omega), Nat.add_sub_cancel_left]
    exact flat_at f m (fun z hz => hf z (by simp [hz])) hk j hj
  | [], _, _, _, hk, _, _ => by simp at hk
theorem flat_length {α β : Type} (f : α → List β) (m : Nat) : ∀ {l : List α} (_ : ∀ x ∈ l, (f x).length = m), (l.flatMap f).length = l.length * m
  | [], _ => by simp
  | y :: l, hf => by
    rw [List.flatMap_cons, List.length_append, hf y (by simp), flat_length f m (fun z hz => hf z (by simp [hz])), List.length_cons, Nat.succ_mul]
    omega
/-- a row put in the place of the k-th one -/
theorem flat_set {α β : Type} (f : α → List β) (m : Nat) : ∀ {l : List α} (_ : ∀ x ∈ l, (f x).length = m) {k : Nat} (_ : k < l.length) (g : α → α) (pre : List β → List β)
    (_ : ∀ x ∈ l, ∀ r, pre (f x ++ r) = f (g x) ++ r), (l.flatMap f).take (k * m) ++ pre ((l.flatMap f).drop (k * m)) = (l.modify k g).flatMap f
  | y :: l, hf, 0, _, g, pre, hp => by
    simp only [Nat.zero_mul, List.take_zero, List.drop_zero, List.nil_append, List.modify_zero_cons, List.flatMap_cons]
    exact hp y (by simp) _
  | y :: l, hf, k + 1, hk, g, pre, hp => by
    have hy := hf y (by simp)
    have e : (k + 1) * m = (f y).length + k * m := by rw [hy, Nat.succ_mul]; omega
    simp only [List.flatMap_cons, List.modify_succ_cons]
    rw [e, List.take_length_add_append, List.drop_length_add_append, List.append_assoc,
      flat_set f m (fun z hz => hf z (by simp [hz])) (by simpa using hk) g pre (fun z hz => hp z (by simp [hz]))]
end Go.Lift
