/- few, both; the two disks side by side. No condition but the readings. -/
import Derived.Test.YtmklfedlifcoiaaRefD
namespace Go.Proofs.Ytmklfedlifcoiaa
open Go.Lift

/-- an act, as plain data -/
structure AM where
  kind : Int
  at' : Int
  data : ByteArray
  raw : Bool
  ks : Sl
  keep : List Bool
  torn : Int
  cut : Int
def AM.cells (a : AM) : List Value := [.int .i64 a.kind, .int .i64 a.at', .string a.data, .bool a.raw, .slice a.ks.a a.ks.n a.ks.c, .int .i64 a.torn, .int .i64 a.cut]
def AM.ok (w0 : World) (a : AM) : Prop := RdB w0 a.ks a.keep ∧ a.keep.length ≤ 140737488351232 ∧ a.at' ≤ 9223372036854775807
def RdA (w : World) (s : Sl) (l : List AM) : Prop := s.n = l.length ∧ ∀ k x, l[k]? = some x → AM.ok w x ∧ ∃ a, s.a = some a ∧ Held w (a.add (k * 7), x.cells)
theorem RdA.fr {w w' : World} {s : Sl} {l : List AM} (h : RdA w s l) (F : Fr noB w w') : RdA w' s l :=
  ⟨h.1, fun k x hx => by
    obtain ⟨h1, a, ha, h2⟩ := h.2 k x hx
    exact ⟨⟨h1.1.fr0 F, h1.2⟩, a, ha, F.held h2 (fun h => h)⟩⟩
theorem RdA.at {w0 : World} {s : Sl} {l : List AM} (h : RdA w0 s l) {k : Nat} (hk : k < l.length) : ∃ x a, l[k]? = some x ∧ s.a = some a ∧ AM.ok w0 x ∧
    (∀ w', Fr noB w0 w' → Held w' (a.add (k * 7), x.cells)) ∧
    ∀ {K : Addr → G} {w' : World} {R : Ending → World → Prop}, K (a.add (k * 7)) R w' → idxG (some a) s.n (k : Int) 7 K R w' := by
  obtain ⟨x, hx⟩ : ∃ x, l[k]? = some x := ⟨_, List.getElem?_eq_getElem hk⟩
  obtain ⟨h1, a, hla, h2⟩ := h.2 k x hx
  have hn := h.1
  exact ⟨x, a, hx, hla, h1, fun w' F => F.held h2 (fun h => h), fun hK => idx_ok (by omega) (by omega) (by rw [Int.toNat_natCast]; exact hK)⟩

theorem few_ok {w : World} (l0 : Sl) (l : List AM) (hl : RdA w l0 l) : Calls Try.prog 23 #[.slice l0.a l0.n l0.c] w fun e w' => ∃ b : Bool, e = .returned (.bool b) ∧ (b = true → l.length ≤ 300) ∧ w' = w := by
  apply c23
  unfold t23
  have hn := hl.1
  refine ite_ok (fun h => ⟨false, rfl, (fun e => by cases e), rfl⟩) fun h => ?_
  have h300 : l.length ≤ 300 := by simp only [decide_eq_false_iff_not] at h; omega
  refine join0_ok (fun w' => w' = w) (fun kend hkend => ?_) (fun w' hw => ⟨true, rfl, fun _ => h300, hw⟩)
  refine loop1_ok (c := .int .i64) (fun (i : Int) w' => ∃ k : Nat, i = (k : Int) ∧ k ≤ l.length ∧ w' = w) (fun (i : Int) => l.length - i.toNat) ?_ ⟨0, rfl, Nat.zero_le _, rfl⟩
  rintro rec i w1 ⟨k, rfl, hk, hw⟩ hrec
  subst hw
  refine ite_ok (fun hlt => ?_) fun hge => hkend _ rfl
  have hlt : k < l.length := by simp only [decide_eq_true_eq] at hlt; omega
  obtain ⟨x, a, hx, hla, hok, hh, hix⟩ := hl.at hlt
  have hh := hh _ (Fr.refl _ _)
  rw [hla]
  refine join_in (hix (ld_ok (c := .str) (x := x.data) (hh 2 _ rfl) (ite_ok (fun h => ⟨false, rfl, (fun e => by cases e), rfl⟩) fun h => ?_)))
  refine hrec _ _ ⟨k + 1, ?_, hlt, rfl⟩ ?_
  · rw [wrap_ok (by omega) (by omega)]; omega
  · rw [wrap_ok (by omega) (by omega), Int.toNat_natCast]; omega

/-! ### The document's disk beside the program's -/
def BesideR (w0 : World) (q : Nat) (o : DM) : (Nat → Prop) → World → Prop := fun C w => RAt w0 w q o C
theorem stable_besideR (w0 : World) (q : Nat) (o : DM) : Stable (BesideR w0 q o) := fun _ _ _ _ h F hC => RAt.fr h F hC
/-- .. with its slices told -/
def BesideT (w0 : World) (q : Nat) (o : DM) (ps cs ks : Sl) (t c : Int) : (Nat → Prop) → World → Prop := fun C w => RDisk w0 w q o ps cs ks t c ∧ ∀ k, RDisk.blocks q ps cs k → C k
theorem stable_besideT (w0 : World) (q : Nat) (o : DM) (ps cs ks : Sl) (t c : Int) : Stable (BesideT w0 q o ps cs ks t c) := fun _ _ _ _ h F hC => ⟨h.1.fr F fun k hk => hC k (h.2 k hk), h.2⟩
section
variable {w0 w : World} {p q : Nat} {d o : DM} {X X' : (Nat → Prop) → World → Prop}
/-- a call that turns what lies beside -/
theorem Sep.turnX (O : Sep w0 w p d X) {f : FuncId} {args : Array Value} {v : Ending}
    (hc : ∀ C, X C w → (∀ k, C k → w0.heap.size ≤ k) → Fr noB w0 w → Calls Try.prog f args w fun e w' => e = v ∧ X' (Grow C w w') w' ∧ Fr C w w') :
    Calls Try.prog f args w fun e w' => e = v ∧ Sep w0 w' p d X' := by
  obtain ⟨B, C, hD, hx, hd, hb, h0⟩ := O
  refine (hc C hx (fun k hk => (hb k (.inr hk)).1) h0).mono ?_
  rintro e w' ⟨he, hx', F⟩
  have hs := F.size
  have h0s := h0.size
  refine ⟨he, B, Grow C w w', hD.fr F hd, hx', fun k hk hc => ?_, fun k hk => ?_, h0.then F (fun k hk h => by have := hb k (.inr h); omega)⟩
  · rcases hc with hc | hc
    · exact hd k hk hc
    · have := hb k (.inl hk); omega
  · rcases hk with hk | (hk | hk)
    · have := hb k (.inl hk); omega
    · have := hb k (.inr hk); omega
    · omega
theorem Sep.lookX (hX : Stable X) (O : Sep w0 w p d X) {f : FuncId} {args : Array Value} {v : Ending}
    (hc : ∀ C, X C w → Calls Try.prog f args w fun e w' => e = v ∧ Fr noB w w') :
    Calls Try.prog f args w fun e w' => e = v ∧ Sep w0 w' p d X := by
  obtain ⟨B, C, hD, hx, hd, hb, h0⟩ := O
  refine (hc C hx).mono ?_
  rintro e w' ⟨he, F⟩
  exact ⟨he, Sep.fr hX ⟨B, C, hD, hx, hd, hb, h0⟩ F⟩
theorem RAt.grow {B : Nat → Prop} {w' : World} (h : RAt w0 w' q o B) : RAt w0 w' q o (Grow B w w') := h.mono fun _ h => .inl h

/-- what an act does -/
def AM.text (a : AM) : ByteArray := if a.raw then a.data else pad a.data
def DM.act (d : DM) (a : AM) : DM :=
  if a.kind = 1 then (d.write a.at' a.text.data.toList).1 else if a.kind = 2 then d.flush.1 else if a.kind = 3 then (d.arm a.at' a.keep a.torn a.cut).1 else
    if a.kind = 4 then (if d.ready 0 ≠ 0 then d else d.dropped a.keep a.torn a.cut) else if a.kind = 5 then { d with dead := false } else d

/-- a call on the one disk, then one on the other: what was laid behind them stays -/
theorem duo {w2 : World} {f1 f2 : FuncId} {args1 args2 : Array Value} {v1 v2 : Ending} {d1 d2 : DM} {m : Nat} {T : TypeId} {cells : List Value} (O : Sep w0 w p d (BesideR w0 q d)) (F : Fr noB w w2) (hm : Blk w2 m T cells) (hmb : w.heap.size ≤ m)
    (h1 : ∀ B, DAt w2 p d B → (∀ k, B k → w0.heap.size ≤ k) → Fr noB w0 w2 → Calls Try.prog f1 args1 w2 fun e w' => e = v1 ∧ DAt w' p d1 (Grow B w2 w') ∧ Fr B w2 w')
    (h2 : ∀ w3 C, RAt w0 w3 q d C → (∀ k, C k → w0.heap.size ≤ k) → Fr noB w0 w3 → Calls Try.prog f2 args2 w3 fun e w' => e = v2 ∧ RAt w0 w' q d2 (Grow C w3 w') ∧ Fr C w3 w') :
    Calls Try.prog f1 args1 w2 fun e w3 => e = v1 ∧ (Blk w3 m T cells ∧ Calls Try.prog f2 args2 w3 fun e w4 => e = v2 ∧ Sep w0 w4 p d1 (BesideR w0 q d2)) := by
  obtain ⟨B, C, hD, hx, hd, hb, h0⟩ := O
  have hs := F.size
  have h0s := h0.size
  have h02 : Fr noB w0 w2 := h0.then F fun _ _ h => h
  refine (h1 B (hD.fr F fun _ _ h => h) (fun k hk => (hb k (.inl hk)).1) h02).mono ?_
  rintro e w3 ⟨he, hD1, F1⟩
  have hs1 := F1.size
  have h03 : Fr noB w0 w3 := h02.then F1 fun k hk h => by have := hb k (.inl h); omega
  refine ⟨he, hm.fr F1 fun h => by have := hb _ (.inl h); omega, ?_⟩
  refine (h2 w3 C (RAt.fr (RAt.fr hx F fun _ _ h => h) F1 fun k hc hk => hd k hk hc) (fun k hk => (hb k (.inr hk)).1) h03).mono ?_
  rintro e w4 ⟨he2, hR2, F2⟩
  have hs2 := F2.size
  refine ⟨he2, Grow B w2 w3, Grow C w3 w4, hD1.fr F2 (fun k hk hc => ?_), hR2, fun k hk hc => ?_, fun k hk => ?_, h03.then F2 fun k hk h => by have := hb k (.inr h); omega⟩
  · rcases hk with hk | hk
    · exact hd k hk hc
    · have := hb k (.inr hc); omega
  · rcases hk with hk | hk
    · rcases hc with hc | hc
      · exact hd k hk hc
      · have := hb k (.inl hk); omega
    · rcases hc with hc | hc
      · have := hb k (.inr hc); omega
      · omega
  · rcases hk with (hk | hk) | (hk | hk)
    · have := hb k (.inl hk); omega
    · omega
    · have := hb k (.inr hk); omega
    · omega

set_option maxHeartbeats 1000000 in
theorem both_ok (O : Sep w0 w p d (BesideR w0 q d)) (a : AM) (ha : a.ok w0) (hc : d.cache.length < 1000000) (ho : d.ops < 4611686018427387904) :
    Calls Try.prog 24 #[.pointer (some ⟨p, 0, none⟩), .pointer (some ⟨q, 0, none⟩), .agg #[.int .i64 a.kind, .int .i64 a.at', .string a.data, .bool a.raw, .slice a.ks.a a.ks.n a.ks.c, .int .i64 a.torn, .int .i64 a.cut]] w fun e w' =>
      e = .returned (.bool true) ∧ Sep w0 w' p (d.act a) (BesideR w0 q (d.act a)) := by
  obtain ⟨hks, hkl, hat⟩ := ha
  have hfs : ∀ {B : Nat → Prop}, (∀ k, B k → w0.heap.size ≤ k) → a.keep ≠ [] → ∀ b, a.ks.a = some b → ¬ B b.block := fun hB hl b hb h => by have := hks.low hl b hb; have := hB _ h; omega
  apply c24
  unfold t24
  refine new_ok fun w1 m9 hm9 hs1 B9 F1 => ?_
  -- the text
  refine B9.ld (o := 2) rfl (B9.ld (o := 3) rfl (join1_ok (c := .str) (fun (s : ByteArray) w' => s = a.text ∧ Fr noB w1 w') (fun kj hkj => ?_) ?_))
  · refine ite_ok (fun h => ?_) fun h => hkj _ _ ⟨?_, Fr.refl _ _⟩
    · have h : a.raw = false := by simpa using h
      refine callS_ok (sector_ok a.data) fun w2 F2 => hkj _ _ ⟨?_, F2⟩
      simp [AM.text, h]
    · have h : a.raw = true := by simpa using h
      simp [AM.text, h]
  rintro s w2 ⟨hs, F2⟩
  change ByteArray at s
  subst hs
  have B92 := B9.fr F2 (fun h => h)
  have F02 : Fr noB w w2 := F1.then F2 fun _ _ h => h
  refine B92.ld (o := 0) rfl (join0_ok (fun w' => Sep w0 w' p (d.act a) (BesideR w0 q (d.act a))) (fun k16 hk16 => ?_) (fun w' h => ⟨rfl, h⟩))
  have hmb : w.heap.size ≤ m9 := by omega
  refine ite_ok (fun h => ?_) fun h0 => ?_
  · have h : a.kind = 0 := by simpa using h
    have e : d.act a = d := by simp [DM.act, h]
    rw [e]
    refine B92.ld (o := 1) rfl (callSI_ok (duo O F02 B92 hmb (fun B hD _ _ => (read_ok hD a.at').mono fun _ _ ⟨h1, h2⟩ => ⟨h1, (hD.fr h2 fun _ _ h => h).grow, h2.mono fun _ _ h => h.elim⟩)
      (fun w3 C hR _ _ => (rread_ok hR a.at').mono fun _ _ ⟨h1, h2⟩ => ⟨h1, (hR.fr h2 fun _ _ h => h).grow, h2.mono fun _ _ h => h.elim⟩)) fun w3 ⟨B93, H⟩ => ?_)
    refine B93.ld (o := 1) rfl (callSI_ok H fun w4 O4 => ?_)
    refine join1_ok (c := .bool) (fun (b : Bool) w' => b = true ∧ w' = w4) (fun kj hkj => ite_yes (beq_iff_eq.2 rfl) (hkj _ _ ⟨beq_iff_eq.2 rfl, rfl⟩)) ?_
    rintro b w' ⟨rfl, rfl⟩
    exact ⟨rfl, O4⟩
  have h0 : a.kind ≠ 0 := by simpa using h0
  refine ite_ok (fun h => ?_) fun h1 => ?_
  · have h : a.kind = 1 := by simpa using h
    have e : d.act a = (d.write a.at' a.text.data.toList).1 := by simp [DM.act, h]
    rw [e]
    refine drew_ok fun w3 F3 _ => ?_
    have B93 := B92.fr F3 (fun h => h)
    have F03 := F02.then F3 fun _ _ h => h
    refine B93.ld (o := 1) rfl (B93.ld (o := 1) rfl (callI_ok (duo O F03 B93 hmb (fun B hD _ _ => write_ok hD a.at' a.text hc ho) (fun w3 C hR hC h0 => rwrite_ok hR h0 hC a.at' a.text hc ho)) fun w4 ⟨B94, H⟩ => ?_))
    refine keep_cons (B94.held1 (o := 1) rfl) (keep_nil (callI_ok H fun w5 O5 => ⟨?_, O5⟩))
    rw [beq_self_eq_true]
  have h1 : a.kind ≠ 1 := by simpa using h1
  refine ite_ok (fun h => ?_) fun h2 => ?_
  · have h : a.kind = 2 := by simpa using h
    have e : d.act a = d.flush.1 := by simp [DM.act, h]
    rw [e]
    refine callI_ok (duo O F02 B92 hmb (fun B hD _ _ => (flush_ok hD ho).mono fun _ _ ⟨h1, h2, h3⟩ => ⟨h1, h2.grow, h3⟩) (fun w3 C hR hC h0 => (rflush_ok hR h0 hC ho).mono fun _ _ ⟨h1, h2, h3⟩ => ⟨h1, h2.grow, h3⟩)) fun w4 ⟨B94, H⟩ => ?_
    refine callI_ok H fun w5 O5 => ⟨?_, O5⟩
    rw [beq_self_eq_true]
  have h2 : a.kind ≠ 2 := by simpa using h2
  refine ite_ok (fun h => ?_) fun h3 => ?_
  · have h : a.kind = 3 := by simpa using h
    have e : d.act a = (d.arm a.at' a.keep a.torn a.cut).1 := by simp [DM.act, h]
    rw [e]
    refine drew_ok fun w3 F3 _ => ?_
    have B93 := B92.fr F3 (fun h => h)
    have F03 := F02.then F3 fun _ _ h => h
    refine B93.ld (o := 1) rfl (B93.ldS (o := 4) rfl (B93.ld (o := 5) rfl (B93.ld (o := 6) rfl (B93.ld (o := 1) rfl (B93.ldS (o := 4) rfl (B93.ld (o := 5) rfl (B93.ld (o := 6) rfl ?_)))))))
    refine callI_ok (duo O F03 B93 hmb (fun B hD hB h0 => arm_ok hD a.at' hat ⟨a.ks.a, a.ks.n, a.ks.c⟩ a.keep a.torn a.cut (hks.fr0 h0) (hfs hB) hkl)
      (fun w3 C hR hC h0 => (rarm_ok hR a.at' hat ⟨a.ks.a, a.ks.n, a.ks.c⟩ a.keep a.torn a.cut hks).mono fun _ _ ⟨h1, h2, h3⟩ => ⟨h1, h2.grow, h3⟩)) fun w4 ⟨B94, H⟩ => ?_
    refine keep_cons (B94.held (o := 4) fun j v hj => ?_) (keep_cons (B94.held1 (o := 1) rfl) (keep_nil (callI_ok H fun w5 O5 => ⟨?_, O5⟩)))
    · match j with
      | 0 => exact hj
      | 1 => exact hj
      | 2 => exact hj
      | j + 3 => simp at hj
    · rw [beq_self_eq_true]
  have h3 : a.kind ≠ 3 := by simpa using h3
  refine ite_ok (fun h => ?_) fun h4 => ?_
  · have h : a.kind = 4 := by simpa using h
    have e : d.act a = (if d.ready 0 ≠ 0 then d else d.dropped a.keep a.torn a.cut) := by simp [DM.act, h]
    rw [e]
    refine drew_ok fun w3 F3 _ => ?_
    have B93 := B92.fr F3 (fun h => h)
    have F03 := F02.then F3 fun _ _ h => h
    refine B93.ldS (o := 4) rfl (B93.ld (o := 5) rfl (B93.ld (o := 6) rfl (B93.ldS (o := 4) rfl (B93.ld (o := 5) rfl (B93.ld (o := 6) rfl ?_)))))
    refine callI_ok (duo O F03 B93 hmb (fun B hD hB h0 => (crash_ok hD ⟨a.ks.a, a.ks.n, a.ks.c⟩ a.keep a.torn a.cut (hks.fr0 h0) (hfs hB)).mono fun _ _ ⟨h1, h2, h3⟩ => ⟨h1, h2.grow, h3⟩)
      (fun w3 C hR hC h0 => (rcrash_ok hR h0 hC ⟨a.ks.a, a.ks.n, a.ks.c⟩ a.keep a.torn a.cut hks).mono fun _ _ ⟨h1, h2, h3⟩ => ⟨h1, h2.grow, h3⟩)) fun w4 ⟨B94, H⟩ => ?_
    refine keep_cons (B94.held (o := 4) fun j v hj => ?_) (keep_nil (callI_ok H fun w5 O5 => ⟨?_, O5⟩))
    · match j with
      | 0 => exact hj
      | 1 => exact hj
      | 2 => exact hj
      | j + 3 => simp at hj
    · rw [beq_self_eq_true]
  have h4 : a.kind ≠ 4 := by simpa using h4
  refine ite_ok (fun h => ?_) fun h5 => ?_
  · have h : a.kind = 5 := by simpa using h
    have e : d.act a = { d with dead := false } := by simp [DM.act, h]
    rw [e]
    refine callI_ok (duo O F02 B92 hmb (fun B hD _ _ => (boot_ok hD).mono fun _ _ ⟨h1, h2, h3⟩ => ⟨h1, h2.grow, h3⟩) (fun w3 C hR hC h0 => (rboot_ok hR).mono fun _ _ ⟨h1, h2, h3⟩ => ⟨h1, h2.grow, h3⟩)) fun w4 ⟨B94, H⟩ => ?_
    exact callI_ok H fun w5 O5 => ⟨rfl, O5⟩
  have h5 : a.kind ≠ 5 := by simpa using h5
  have e : d.act a = d := by simp [DM.act, h1, h2, h3, h4, h5]
  refine hk16 _ ?_
  rw [e]
  exact O.fr (stable_besideR w0 q d) F02

/-- how an act counts -/
theorem act_counts (d : DM) (a : AM) : (d.act a).cache.length ≤ d.cache.length + 1 ∧ (d.act a).ops ≤ d.ops + 1 := by
  have same : d.cache.length ≤ d.cache.length + 1 ∧ d.ops ≤ d.ops + 1 := ⟨by omega, by omega⟩
  have drop : ∀ (x : DM) k t c, x.ops ≤ d.ops + 1 → (x.dropped k t c).cache.length ≤ d.cache.length + 1 ∧ (x.dropped k t c).ops ≤ d.ops + 1 := fun x k t c h => ⟨Nat.zero_le _, h⟩
  unfold DM.act
  split
  · unfold DM.write
    split
    · exact same
    · split
      · exact same
      · split
        · exact drop _ _ _ _ (by show d.ops + 1 ≤ _; omega)
        · exact ⟨by simp [DM.fell, DM.wrote], by show d.ops + 1 ≤ _; omega⟩
  · split
    · unfold DM.flush
      split
      · exact same
      · split
        · exact drop _ _ _ _ (by show d.ops + 1 ≤ _; omega)
        · exact ⟨by simp, by show d.ops + 1 ≤ _; omega⟩
    · split
      · unfold DM.arm
        split
        · exact same
        · split <;> exact same
      · split
        · split
          · exact same
          · exact drop _ _ _ _ same.2
        · split <;> exact same
end
end Go.Proofs.Ytmklfedlifcoiaa
