/- The laws' helpers: a text made a sector's; awake. -/
import Derived.Test.YtmklfedlifcoiaaReadB
import Derived.Test.YtmklfedlifcoiaaTreeC
namespace Go.Proofs.Ytmklfedlifcoiaa
open Go.Lift

def padL (l : List UInt8) : List UInt8 := l.take 64 ++ List.replicate (64 - (l.take 64).length) 0
def pad (s : ByteArray) : ByteArray := ⟨(padL s.data.toList).toArray⟩
theorem padL_length (l : List UInt8) : (padL l).length = 64 := by simp [padL]; omega
theorem pad_list (s : ByteArray) : (pad s).data.toList = padL s.data.toList := by simp [pad]

theorem sector_ok {w : World} (s : ByteArray) : Calls Try.prog 13 #[.string s] w fun e w' => e = .returned (.string (pad s)) ∧ Fr noB w w' := by
  apply c13
  unfold t13
  obtain ⟨m, hm⟩ : ∃ m : Nat, m = min 64 s.size := ⟨_, rfl⟩
  have e1 : (if (64 : Int) < (↑(ByteArray.size s) : Int) then (64 : Int) else (↑(ByteArray.size s) : Int)) = (m : Int) := by split <;> omega
  rw [e1]
  refine sub_ok (by omega) (by omega) (by omega) ?_
  have hl : ((s.extract (0 : Int).toNat ((m : Int)).toNat).data.toList) = s.data.toList.take 64 := by
    have : s.data.toList.length = s.size := by simp
    simp only [ByteArray.data_extract, Array.toList_extract, List.extract_eq_take_drop, Int.toNat_natCast, Int.toNat_zero, List.drop_zero, Nat.sub_zero]
    rw [hm]
    by_cases h : 64 ≤ s.size
    · rw [Nat.min_eq_left h]
    · rw [Nat.min_eq_right (by omega), List.take_of_length_le (by omega), List.take_of_length_le (by omega)]
  have hsz : (s.extract (0 : Int).toNat ((m : Int)).toNat).size = m := by
    have := congrArg List.length hl
    rw [List.length_take] at this
    have h2 : s.data.toList.length = s.size := by simp
    have h3 : (s.extract (0 : Int).toNat ((m : Int)).toNat).data.toList.length = (s.extract (0 : Int).toNat ((m : Int)).toNat).size := by simp
    omega
  generalize s.extract (0 : Int).toNat ((m : Int)).toNat = s1 at *
  rw [hsz, wrap_ok (by omega) (by omega)]
  obtain ⟨i, z, hi, hz, h1, h2, h3⟩ := row5
  have e64 : ((64 : Int) - m).toNat = 64 - m := by omega
  refine make_ok u75 hi hz (by omega) (by omega) (by rw [h2]; omega) (by omega) fun w1 b hb hs1 B1 F1 => ?_
  rw [h3, h1, e64] at B1
  rw [show (#[Value.int .u8 0] : Array Value) = Array.replicate 1 (.int .u8 0) from rfl, made_rep _ _ _ (by omega), Nat.mul_one] at B1
  refine back_ok (n := 64 - m) (l := List.replicate (64 - m) 0) (by simp) ?_ (cat_ok (by rw [hsz]; simp [ByteArray.size]; omega) ⟨?_, F1⟩)
  · rw [e64]
    refine ⟨by simp [bv], .inr ⟨b, 64 - m, _, rfl, Nat.zero_le _, B1, Nat.le_refl _, by unfold maxLen; omega, by simp, ?_⟩⟩
    simp [bv, u8]
  · congr 2
    have : (s1 ++ (⟨(List.replicate (64 - m) 0).toArray⟩ : ByteArray)).data = (pad s).data := by
      rw [ByteArray.data_append]
      apply Array.toList_inj.1
      rw [Array.toList_append, hl]
      simp [pad, padL]
      omega
    exact congrArg ByteArray.mk this

/-! ### A disk of one's own, beside something else of one's own -/
def Stable (X : (Nat → Prop) → World → Prop) : Prop := ∀ C w w' S, X C w → Fr S w w' → (∀ k, C k → ¬ S k) → X C w'
def Sep (w0 w : World) (p : Nat) (d : DM) (X : (Nat → Prop) → World → Prop) : Prop :=
  ∃ B C, DAt w p d B ∧ X C w ∧ (∀ k, B k → ¬ C k) ∧ (∀ k, B k ∨ C k → w0.heap.size ≤ k ∧ k < w.heap.size) ∧ Fr noB w0 w
def Lone : (Nat → Prop) → World → Prop := fun _ _ => True
def Beside (q : Nat) (o : DM) : (Nat → Prop) → World → Prop := fun C w => DAt w q o C
theorem stable_lone : Stable Lone := fun _ _ _ _ _ _ _ => trivial
theorem stable_beside (q : Nat) (o : DM) : Stable (Beside q o) := fun _ _ _ _ h F hC => DAt.fr h F hC
section
variable {w0 w : World} {p : Nat} {d : DM} {X : (Nat → Prop) → World → Prop}
theorem Sep.fr0 (O : Sep w0 w p d X) : Fr noB w0 w := by obtain ⟨_, _, _, _, _, _, h⟩ := O; exact h
theorem Sep.fr {w' : World} (hX : Stable X) (O : Sep w0 w p d X) (F : Fr noB w w') : Sep w0 w' p d X := by
  obtain ⟨B, C, hD, hx, hd, hb, h0⟩ := O
  refine ⟨B, C, hD.fr F (fun _ _ h => h), hX _ _ _ _ hx F (fun _ _ h => h), hd, fun k hk => ?_, h0.then F (fun _ _ h => h)⟩
  have := hb k hk; have := F.size
  omega
theorem Sep.swap {q : Nat} {o : DM} (O : Sep w0 w p d (Beside q o)) : Sep w0 w q o (Beside p d) := by
  obtain ⟨B, C, hD, hx, hd, hb, h0⟩ := O
  exact ⟨C, B, hx, hD, fun k h1 h2 => hd k h2 h1, fun k hk => hb k hk.symm, h0⟩
theorem Sep.lone {Y : (Nat → Prop) → World → Prop} (O : Sep w0 w p d Y) : Sep w0 w p d Lone := by
  obtain ⟨B, C, hD, hx, hd, hb, h0⟩ := O
  exact ⟨B, fun _ => False, hD, trivial, fun k _ h => h, fun k hk => hb k (hk.elim .inl False.elim), h0⟩
/-- a call that turns the disk -/
theorem Sep.turn (hX : Stable X) (O : Sep w0 w p d X) {f : FuncId} {args : Array Value} {v : Ending} {d' : DM}
    (hc : ∀ B, DAt w p d B → (∀ k, B k → w0.heap.size ≤ k) → Calls Try.prog f args w fun e w' => e = v ∧ DAt w' p d' (Grow B w w') ∧ Fr B w w') :
    Calls Try.prog f args w fun e w' => e = v ∧ Sep w0 w' p d' X := by
  obtain ⟨B, C, hD, hx, hd, hb, h0⟩ := O
  refine (hc B hD (fun k hk => (hb k (.inl hk)).1)).mono ?_
  rintro e w' ⟨he, hD', F⟩
  have hs := F.size
  have h0s := h0.size
  refine ⟨he, Grow B w w', C, hD', hX _ _ _ _ hx F (fun k hc hk => hd k hk hc), fun k hk hc => ?_, fun k hk => ?_, h0.then F (fun k hk h => by have := hb k (.inl h); omega)⟩
  · rcases hk with hk | hk
    · exact hd k hk hc
    · have := hb k (.inr hc); omega
  · rcases hk with (hk | hk) | hk
    · have := hb k (.inl hk); omega
    · omega
    · have := hb k (.inr hk); omega
/-- a call that only looks -/
theorem Sep.look (hX : Stable X) (O : Sep w0 w p d X) {f : FuncId} {args : Array Value} {v : Ending}
    (hc : ∀ B, DAt w p d B → Calls Try.prog f args w fun e w' => e = v ∧ Fr noB w w') :
    Calls Try.prog f args w fun e w' => e = v ∧ Sep w0 w' p d X := by
  obtain ⟨B, C, hD, hx, hd, hb, h0⟩ := O
  refine (hc B hD).mono ?_
  rintro e w' ⟨he, F⟩
  exact ⟨he, Sep.fr hX ⟨B, C, hD, hx, hd, hb, h0⟩ F⟩
theorem DAt.grow {B : Nat → Prop} {w w' : World} {p : Nat} {d : DM} (h : DAt w' p d B) : DAt w' p d (Grow B w w') := h.mono fun _ h => .inl h

variable (hX : Stable X) (O : Sep w0 w p d X)
include hX O
theorem Sep.write (i : Int) (s : ByteArray) (hc : d.cache.length < 1000000) (ho : d.ops < 4611686018427387904) :
    Calls Try.prog 12 #[.pointer (some ⟨p, 0, none⟩), .int .i64 i, .string s] w fun e w' => e = .returned (.int .i64 (d.write i s.data.toList).2) ∧ Sep w0 w' p (d.write i s.data.toList).1 X :=
  O.turn hX fun _ D _ => write_ok D i s hc ho
theorem Sep.flush (ho : d.ops < 4611686018427387904) : Calls Try.prog 19 #[.pointer (some ⟨p, 0, none⟩)] w fun e w' => e = .returned (.int .i64 d.flush.2) ∧ Sep w0 w' p d.flush.1 X :=
  O.turn hX fun _ D _ => (flush_ok D ho).mono fun _ _ ⟨h1, h2, h3⟩ => ⟨h1, h2.grow, h3⟩
theorem Sep.boot : Calls Try.prog 20 #[.pointer (some ⟨p, 0, none⟩)] w fun e w' => e = .returned (.int .i64 0) ∧ Sep w0 w' p { d with dead := false } X :=
  O.turn hX fun _ D _ => (boot_ok D).mono fun _ _ ⟨h1, h2, h3⟩ => ⟨h1, h2.grow, h3⟩
theorem Sep.crash (f : Sl) (keep : List Bool) (torn cut : Int) (hf : RdB w f keep) (hfs : keep ≠ [] → ∀ a, f.a = some a → a.block < w0.heap.size) :
    Calls Try.prog 14 #[.pointer (some ⟨p, 0, none⟩), .agg #[.slice f.a f.n f.c, .int .i64 torn, .int .i64 cut]] w fun e w' =>
      e = .returned (.int .i64 (d.ready 0)) ∧ Sep w0 w' p (if d.ready 0 ≠ 0 then d else d.dropped keep torn cut) X :=
  O.turn hX fun _ D hB => (crash_ok D f keep torn cut hf (fun hl a ha hb => by have := hB _ hb; have := hfs hl a ha; omega)).mono fun _ _ ⟨h1, h2, h3⟩ => ⟨h1, h2.grow, h3⟩
theorem Sep.arm (at' : Int) (hat : at' ≤ 9223372036854775807) (f : Sl) (keep : List Bool) (torn cut : Int) (hf : RdB w f keep) (hfs : keep ≠ [] → ∀ a, f.a = some a → a.block < w0.heap.size) (hk : keep.length ≤ 140737488351232) :
    Calls Try.prog 11 #[.pointer (some ⟨p, 0, none⟩), .int .i64 at', .agg #[.slice f.a f.n f.c, .int .i64 torn, .int .i64 cut]] w fun e w' =>
      e = .returned (.int .i64 (d.arm at' keep torn cut).2) ∧ Sep w0 w' p (d.arm at' keep torn cut).1 X :=
  O.turn hX fun _ D hB => arm_ok D at' hat f keep torn cut hf (fun hl a ha hb => by have := hB _ hb; have := hfs hl a ha; omega) hk
theorem Sep.image : Calls Try.prog 16 #[.pointer (some ⟨p, 0, none⟩)] w fun e w' => e = .returned (.string d.image) ∧ Sep w0 w' p d X :=
  O.look hX fun _ D => image_ok D
theorem Sep.read (i : Int) : Calls Try.prog 27 #[.pointer (some ⟨p, 0, none⟩), .int .i64 i] w fun e w' => e = .returned (.tuple #[.string ⟨(d.read i).1.toArray⟩, .int .i64 (d.read i).2]) ∧ Sep w0 w' p d X :=
  O.look hX fun _ D => read_ok D i
theorem Sep.dead : Calls Try.prog 15 #[.pointer (some ⟨p, 0, none⟩)] w fun e w' => e = .returned (.bool d.dead) ∧ Sep w0 w' p d X :=
  O.look hX fun _ D => (dead_ok D).mono fun _ _ ⟨h1, h2⟩ => ⟨h1, h2 ▸ Fr.refl _ _⟩
theorem Sep.opsN : Calls Try.prog 17 #[.pointer (some ⟨p, 0, none⟩)] w fun e w' => e = .returned (.int .i64 d.ops) ∧ Sep w0 w' p d X :=
  O.look hX fun _ D => (ops_ok D).mono fun _ _ ⟨h1, h2⟩ => ⟨h1, h2 ▸ Fr.refl _ _⟩
theorem Sep.sectors : Calls Try.prog 25 #[.pointer (some ⟨p, 0, none⟩)] w fun e w' => e = .returned (.int .i64 d.plat.length) ∧ Sep w0 w' p d X :=
  O.look hX fun _ D => (sectors_ok D).mono fun _ _ ⟨h1, h2⟩ => ⟨h1, h2 ▸ Fr.refl _ _⟩
omit hX O
/-- a new disk, the first of one's own -/
theorem new_lone (F0 : Fr noB w0 w) (n : Int) (h1 : 1 ≤ n) (h2 : n ≤ 4096) : Calls Try.prog 10 #[.int .i64 n] w fun e w' =>
    ∃ p, e = .returned (.tuple #[.pointer (some ⟨p, 0, none⟩), .int .i64 0]) ∧ Sep w0 w' p (DM.new n.toNat) Lone := by
  refine (new_disk_ok n).mono ?_
  intro e w' h
  rw [if_neg (by omega)] at h
  obtain ⟨p, he, hD, F⟩ := h
  have := F0.size
  exact ⟨p, he, Grow noB w w', noB, hD, trivial, fun _ _ h => h, fun k hk => by rcases hk with (hk | hk) | hk; exact hk.elim; exact ⟨by omega, hk.2⟩; exact hk.elim, F0.then F (fun _ _ h => h)⟩
/-- .. beside another one -/
theorem Sep.new (O : Sep w0 w p d Lone) (n : Int) (h1 : 1 ≤ n) (h2 : n ≤ 4096) : Calls Try.prog 10 #[.int .i64 n] w fun e w' =>
    ∃ q, e = .returned (.tuple #[.pointer (some ⟨q, 0, none⟩), .int .i64 0]) ∧ Sep w0 w' p d (Beside q (DM.new n.toNat)) := by
  obtain ⟨B, C, hD, _, _, hb, h0⟩ := O
  refine (new_disk_ok n).mono ?_
  intro e w' h
  rw [if_neg (by omega)] at h
  obtain ⟨q, he, hD', F⟩ := h
  have := h0.size
  have := F.size
  refine ⟨q, he, B, Grow noB w w', hD.fr F (fun _ _ h => h), hD', fun k hk hg => ?_, fun k hk => ?_, h0.then F (fun _ _ h => h)⟩
  · have := hb k (.inl hk)
    rcases hg with hg | hg
    · exact hg
    · omega
  · rcases hk with hk | (hk | hk)
    · have := hb k (.inl hk); omega
    · exact hk.elim
    · omega
end
end Go.Proofs.Ytmklfedlifcoiaa
